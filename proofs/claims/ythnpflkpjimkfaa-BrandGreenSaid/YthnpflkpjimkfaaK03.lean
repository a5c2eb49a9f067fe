/-
  BODIES OF FUNCTIONS OF THE PROGRAM AS SMALL OPERATIONS (written by gen.py; checked by the kernel against the program). Conditions: none.
-/
import Derived.Test.YthnpflkpjimkfaaKAmH
import Derived.Test.YthnpflkpjimkfaaK02
import Derived.Test.YthnpflkpjimkfaaK01
set_option linter.all false
namespace Go.Proofs.Ythnpflkpjimkfaa
open Go.AM
open Go.Proofs.Try (prog)
set_option maxRecDepth 100000
set_option linter.all false
namespace brand_monoid_classes
noncomputable section
variable (K : List Item) (s : St)
def b : Code := (Try.f89.body).getD .skip
theorem hf : prog.funcs[89]? = some Try.f89 := by kernel_rfl
def r0 := findReg b 0
def r1 := findReg b 1
def r2 := findReg b 2
def r3 := findReg b 3
def r4 := findReg b 4
def k0 := findBlk b 0
def l0 := loopOf k0
def L0 (x0 x7 x8 x9 x28 x29 : AV) (m : Mem) (K : List Item) : Option Res := den prog ann 89 (.code l0 :: .inLoop l0 :: .inBlock 0 :: K) ⟨[(0, x0), (7, x7), (8, x8), (9, x9), (28, x28), (29, x29)], 76, m⟩
def r5 := findReg b 5
def i0 := findCond b 0
def i0t := thenOf i0
def i0e := elseOf i0
def k1 := findBlk b 1
def r6 := findReg b 6
def r7 := findReg b 7
def i1 := findCond b 1
def i1t := thenOf i1
def i1e := elseOf i1
def r8 := findReg b 8
def r9 := findReg b 9
def k2 := findBlk b 2
def l2 := loopOf k2
def L2 (x0 x7 x8 x9 x10 x11 x28 x29 x39 x40 x41 : AV) (m : Mem) (K : List Item) : Option Res := den prog ann 89 (.code l2 :: .inLoop l2 :: .inBlock 2 :: K) ⟨[(0, x0), (7, x7), (8, x8), (9, x9), (10, x10), (11, x11), (28, x28), (29, x29), (39, x39), (40, x40), (41, x41)], 76, m⟩
def r10 := findReg b 10
def i2 := findCond b 2
def i2t := thenOf i2
def i2e := elseOf i2
def k3 := findBlk b 3
def r11 := findReg b 11
def r12 := findReg b 12
def i3 := findCond b 3
def i3t := thenOf i3
def i3e := elseOf i3
def r13 := findReg b 13
def r14 := findReg b 14
def r15 := findReg b 15
def r16 := findReg b 16
def r17 := findReg b 17
theorem b_eq : den prog ann 89 (.code b :: K) s = den prog ann 89 (.code r0 :: .code r1 :: .code r2 :: .code r3 :: .code r4 :: .code k0 :: .code r17 :: .code .ret :: K) s := den_flat hf (l := [r0, r1, r2, r3, r4, k0, r17, .ret]) (by kernel_rfl) K s
theorem r0_eq : den prog ann 89 (.code r0 :: K) s = mreg prog ann 89 none [] none [] [qF 6 fun s => some (.nils)] K s := (den_reg hf _ K s).trans (by kernel_rfl)
theorem r1_eq : den prog ann 89 (.code r1 :: K) s = mreg prog ann 89 none [] none [] [qC 14 0,qC 15 1,qC 16 2,⟨some 17, none, .c 0 (fun s => (.fn 96 [] [])) fun s => [(s.get 14), (s.get 15), (s.get 16)]⟩,qC 7 17] K s := (den_reg hf _ K s).trans (by kernel_rfl)
theorem r2_eq : den prog ann 89 (.code r2 :: K) s = mreg prog ann 89 none [] none [] [qC 18 0,qA 19 nilA 18,qA 20 (fieldA 2) 19,qA 21 (loadF false 1) 20,qA 22 lenSl 21,⟨some 23, none, .w false none fun s => makeA 1 1 (.bool false) s.m (s.get 22) (s.get 22)⟩,qC 8 23] K s := (den_reg hf _ K s).trans (by kernel_rfl)
theorem r3_eq : den prog ann 89 (.code r3 :: K) s = mreg prog ann 89 none [] none [] [qF 9 fun s => some (.nils)] K s := (den_reg hf _ K s).trans (by kernel_rfl)
theorem r4_eq : den prog ann 89 (.code r4 :: K) s = mreg prog ann 89 none [] none [] [qC 24 0,qA 25 nilA 24,qA 26 (fieldA 2) 25,qA 27 (loadF false 1) 26,qA 28 lenSl 27,qF 29 fun s => some (.int .i64 0)] K s := (den_reg hf _ K s).trans (by kernel_rfl)
theorem k0_eq (K : List Item) (t : List (Nat × AV)) (m : Mem) : den prog ann 89 (.code k0 :: K) ⟨t, 76, m⟩ = L0 (get t 0) (get t 7) (get t 8) (get t 9) (get t 28) (get t 29) m K := den_loop_enter hf (b := l0) (id := 5) (l := [0, 7, 8, 9, 28, 29]) (by kernel_rfl) (by kernel_rfl) (by kernel_rfl) K _
theorem l0_eq (K : List Item) (t : List (Nat × AV)) (m : Mem) : den prog ann 89 (.inLoop l0 :: .inBlock 0 :: K) ⟨t, 76, m⟩ = L0 (get t 0) (get t 7) (get t 8) (get t 9) (get t 28) (get t 29) m K := den_loop_again hf (id := 5) (l := [0, 7, 8, 9, 28, 29]) (by kernel_rfl) (by kernel_rfl) (.inBlock 0 :: K) _
theorem L0_eq (x0 x7 x8 x9 x28 x29 : AV) (m : Mem) (K : List Item) : L0 x0 x7 x8 x9 x28 x29 m K = den prog ann 89 (.code r5 :: .code i0 :: .code k1 :: .code r16 :: .inLoop l0 :: .inBlock 0 :: K) ⟨[(0, x0), (7, x7), (8, x8), (9, x9), (28, x28), (29, x29)], 76, m⟩ := den_flat hf (l := [r5, i0, k1, r16]) (by kernel_rfl) _ _
theorem r5_eq : den prog ann 89 (.code r5 :: K) s = mreg prog ann 89 (some [0, 7, 8, 9, 28, 29]) [] none [] [qB 30 (binA prog .lss 3) 29 28] K s := (den_reg hf _ K s).trans (by kernel_rfl)
theorem i0_eq : den prog ann 89 (.code i0 :: K) s = ifV prog ann 89 30 i0t i0e K s (s.get 30) := den_if hf (by kernel_rfl) K s
theorem i0t_eq : den prog ann 89 (.code i0t :: K) s = den prog ann 89 (K) s := den_flat hf (l := []) (by kernel_rfl) K s
theorem i0e_eq : den prog ann 89 (.code i0e :: K) s = den prog ann 89 (.code (.exit 0) :: K) s := den_flat hf (l := [(.exit 0)]) (by kernel_rfl) K s
theorem k1_eq : den prog ann 89 (.code k1 :: K) s = den prog ann 89 (.code r6 :: .code r7 :: .code i1 :: .code r8 :: .code r9 :: .code k2 :: .code r15 :: .inBlock 1 :: K) s := den_blk hf (b := blkOf k1) (l := [r6, r7, i1, r8, r9, k2, r15]) (by kernel_rfl) (by kernel_rfl) K s
theorem r6_eq : den prog ann 89 (.code r6 :: K) s = mreg prog ann 89 none [] none [] [qC 31 29,qC 10 31] K s := (den_reg hf _ K s).trans (by kernel_rfl)
theorem r7_eq : den prog ann 89 (.code r7 :: K) s = mreg prog ann 89 none [] none [] [qC 32 8,qC 33 10,qB 34 (idxSl 1) 32 33,qF 35 fun s => loadA false 1 s.m (s.get 34)] K s := (den_reg hf _ K s).trans (by kernel_rfl)
theorem i1_eq : den prog ann 89 (.code i1 :: K) s = ifV prog ann 89 35 i1t i1e K s (s.get 35) := den_if hf (by kernel_rfl) K s
theorem i1t_eq : den prog ann 89 (.code i1t :: K) s = den prog ann 89 (.code (.exit 1) :: K) s := den_flat hf (l := [(.exit 1)]) (by kernel_rfl) K s
theorem i1e_eq : den prog ann 89 (.code i1e :: K) s = den prog ann 89 (K) s := den_flat hf (l := []) (by kernel_rfl) K s
theorem r8_eq : den prog ann 89 (.code r8 :: K) s = mreg prog ann 89 none [] none [] [qF 11 fun s => some (.nils)] K s := (den_reg hf _ K s).trans (by kernel_rfl)
theorem r9_eq : den prog ann 89 (.code r9 :: K) s = mreg prog ann 89 none [] none [] [qC 36 0,qA 37 nilA 36,qA 38 (fieldA 2) 37,qA 39 (loadF false 1) 38,qA 40 lenSl 39,qF 41 fun s => some (.int .i64 0)] K s := (den_reg hf _ K s).trans (by kernel_rfl)
theorem k2_eq (K : List Item) (t : List (Nat × AV)) (m : Mem) : den prog ann 89 (.code k2 :: K) ⟨t, 76, m⟩ = L2 (get t 0) (get t 7) (get t 8) (get t 9) (get t 10) (get t 11) (get t 28) (get t 29) (get t 39) (get t 40) (get t 41) m K := den_loop_enter hf (b := l2) (id := 10) (l := [0, 7, 8, 9, 10, 11, 28, 29, 39, 40, 41]) (by kernel_rfl) (by kernel_rfl) (by kernel_rfl) K _
theorem l2_eq (K : List Item) (t : List (Nat × AV)) (m : Mem) : den prog ann 89 (.inLoop l2 :: .inBlock 2 :: K) ⟨t, 76, m⟩ = L2 (get t 0) (get t 7) (get t 8) (get t 9) (get t 10) (get t 11) (get t 28) (get t 29) (get t 39) (get t 40) (get t 41) m K := den_loop_again hf (id := 10) (l := [0, 7, 8, 9, 10, 11, 28, 29, 39, 40, 41]) (by kernel_rfl) (by kernel_rfl) (.inBlock 2 :: K) _
theorem L2_eq (x0 x7 x8 x9 x10 x11 x28 x29 x39 x40 x41 : AV) (m : Mem) (K : List Item) : L2 x0 x7 x8 x9 x10 x11 x28 x29 x39 x40 x41 m K = den prog ann 89 (.code r10 :: .code i2 :: .code k3 :: .code r14 :: .inLoop l2 :: .inBlock 2 :: K) ⟨[(0, x0), (7, x7), (8, x8), (9, x9), (10, x10), (11, x11), (28, x28), (29, x29), (39, x39), (40, x40), (41, x41)], 76, m⟩ := den_flat hf (l := [r10, i2, k3, r14]) (by kernel_rfl) _ _
theorem r10_eq : den prog ann 89 (.code r10 :: K) s = mreg prog ann 89 (some [0, 7, 8, 9, 10, 11, 28, 29, 39, 40, 41]) [] none [] [qB 42 (binA prog .lss 3) 41 40] K s := (den_reg hf _ K s).trans (by kernel_rfl)
theorem i2_eq : den prog ann 89 (.code i2 :: K) s = ifV prog ann 89 42 i2t i2e K s (s.get 42) := den_if hf (by kernel_rfl) K s
theorem i2t_eq : den prog ann 89 (.code i2t :: K) s = den prog ann 89 (K) s := den_flat hf (l := []) (by kernel_rfl) K s
theorem i2e_eq : den prog ann 89 (.code i2e :: K) s = den prog ann 89 (.code (.exit 2) :: K) s := den_flat hf (l := [(.exit 2)]) (by kernel_rfl) K s
theorem k3_eq : den prog ann 89 (.code k3 :: K) s = den prog ann 89 (.code r11 :: .code r12 :: .code i3 :: .inBlock 3 :: K) s := den_blk hf (b := blkOf k3) (l := [r11, r12, i3]) (by kernel_rfl) (by kernel_rfl) K s
theorem r11_eq : den prog ann 89 (.code r11 :: K) s = mreg prog ann 89 none [] none [] [qC 43 41,qB 44 (idxSl 1) 39 41,qA 45 (loadF false 1) 44,qC 12 43,qC 13 45] K s := (den_reg hf _ K s).trans (by kernel_rfl)
theorem r12_eq : den prog ann 89 (.code r12 :: K) s = mreg prog ann 89 none [] none [] [qC 46 7,qC 47 10,qB 48 (idxSl 1) 46 47,qA 49 (loadF false 1) 48,qC 50 12,qB 51 (idxSl 1) 49 50,qA 52 (loadF false 1) 51,qC 53 52,⟨some 54, some (53, true), .v fun s => some (s.get 7)⟩,⟨some 55, some (53, true), .v fun s => some (s.get 12)⟩,⟨some 56, some (53, true), .v fun s => idxSl 1 (s.get 54) (s.get 55)⟩,⟨some 57, some (53, true), .v fun s => loadF false 1 (s.get 56)⟩,⟨some 58, some (53, true), .v fun s => some (s.get 10)⟩,⟨some 59, some (53, true), .v fun s => idxSl 1 (s.get 57) (s.get 58)⟩,⟨some 60, some (53, true), .v fun s => loadF false 1 (s.get 59)⟩,qF 61 fun s => pickA (s.get 53) (s.get 60) (.bool false)] K s := (den_reg hf _ K s).trans (by kernel_rfl)
theorem i3_eq : den prog ann 89 (.code i3 :: K) s = ifV prog ann 89 61 i3t i3e K s (s.get 61) := den_if hf (by kernel_rfl) K s
theorem i3t_eq : den prog ann 89 (.code i3t :: K) s = den prog ann 89 (.code r13 :: K) s := den_flat hf (l := [r13]) (by kernel_rfl) K s
theorem r13_eq : den prog ann 89 (.code r13 :: K) s = mreg prog ann 89 none [] none [] [qC 62 8,qC 63 12,qC 64 11,qC 65 13,qF 66 fun s => bslF 1 (bslA 1 1 [.str []] [(0, (s.get 65))]),⟨some 67, none, .w false none fun s => appendA 1 16 s.m (s.get 64) (s.get 66)⟩,qC 11 67,qB 68 (idxSl 1) 62 63,⟨none, none, .w false none fun s => stA false 1 s.m (s.get 68) (.bool true)⟩] K s := (den_reg hf _ K s).trans (by kernel_rfl)
theorem i3e_eq : den prog ann 89 (.code i3e :: K) s = den prog ann 89 (K) s := den_flat hf (l := []) (by kernel_rfl) K s
theorem r14_eq : den prog ann 89 (.code r14 :: K) s = mreg prog ann 89 (some [0, 7, 8, 9, 10, 11, 28, 29, 39, 40, 41]) [] none [] [qF 69 fun s => binA prog .add 3 (s.get 41) (.int .i64 1),qC 41 69] K s := (den_reg hf _ K s).trans (by kernel_rfl)
theorem r15_eq : den prog ann 89 (.code r15 :: K) s = mreg prog ann 89 (some [0, 7, 8, 9, 11, 28, 29]) [11] none [] [qC 70 9,qC 71 11,qF 72 fun s => bslF 1 (bslA 1 1 [.nils] [(0, (s.get 71))]),⟨some 73, none, .w false none fun s => appendA 1 24 s.m (s.get 70) (s.get 72)⟩,qC 9 73] K s := (den_reg hf _ K s).trans (by kernel_rfl)
theorem r16_eq : den prog ann 89 (.code r16 :: K) s = mreg prog ann 89 (some [0, 7, 8, 9, 28, 29]) [] none [] [qF 74 fun s => binA prog .add 3 (s.get 29) (.int .i64 1),qC 29 74] K s := (den_reg hf _ K s).trans (by kernel_rfl)
theorem r17_eq : den prog ann 89 (.code r17 :: K) s = mreg prog ann 89 (some [9]) [] none [] [qC 75 9,qC 6 75] K s := (den_reg hf _ K s).trans (by kernel_rfl)
theorem ret_eq : den prog ann 89 (.code .ret :: K) s = finM true [fun s => some (s.get 6)] s := (den_ret hf K s).trans (by kernel_rfl)
theorem nil_eq (s : St) : den prog ann 89 [] s = finM true [fun s => some (s.get 6)] s := (den_nil hf s).trans (by kernel_rfl)
theorem inBlock_eq (id : Nat) (K : List Item) (s : St) : den prog ann 89 (.inBlock id :: K) s = den prog ann 89 K s := den_inBlock hf id K s
theorem exit_eq (id : Nat) (K : List Item) (s : St) : den prog ann 89 (.code (.exit id) :: K) s = exitV prog ann 89 (exitTo id K) s := den_exitV hf id K s
theorem call_eq (v0 v1 v2 : AV) (m : Mem) (h : closedL [v0, v1, v2] = true) : denC prog ann 89 [v0, v1, v2] m = (den prog ann 89 [.code b] ⟨[(0, v0), (1, v1), (2, v2)], 76, Mem.empty⟩).bind fun r => some (r.1, m) := (denC_pure hf (b := b) (by kernel_rfl) (by kernel_rfl) (by kernel_rfl) h m).trans (by kernel_rfl)
theorem pure_eq : (ann 89).pure = true := by kernel_rfl
attribute [simp] b_eq r0_eq r1_eq r2_eq r3_eq r4_eq k0_eq l0_eq r5_eq i0_eq i0t_eq i0e_eq k1_eq r6_eq r7_eq i1_eq i1t_eq i1e_eq r8_eq r9_eq k2_eq l2_eq r10_eq i2_eq i2t_eq i2e_eq k3_eq r11_eq r12_eq i3_eq i3t_eq r13_eq i3e_eq r14_eq r15_eq r16_eq r17_eq ret_eq nil_eq inBlock_eq exit_eq pure_eq
end
end brand_monoid_classes
namespace brand_monoid_below
noncomputable section
variable (K : List Item) (s : St)
def b : Code := (Try.f96.body).getD .skip
theorem hf : prog.funcs[96]? = some Try.f96 := by kernel_rfl
def r0 := findReg b 0
def r1 := findReg b 1
def r2 := findReg b 2
def r3 := findReg b 3
def k0 := findBlk b 0
def l0 := loopOf k0
def L0 (x0 x1 x2 x7 x8 x27 x28 x29 : AV) (m : Mem) (K : List Item) : Option Res := den prog ann 96 (.code l0 :: .inLoop l0 :: .inBlock 0 :: K) ⟨[(0, x0), (1, x1), (2, x2), (7, x7), (8, x8), (27, x27), (28, x28), (29, x29)], 136, m⟩
def r4 := findReg b 4
def i0 := findCond b 0
def i0t := thenOf i0
def i0e := elseOf i0
def k1 := findBlk b 1
def r5 := findReg b 5
def r6 := findReg b 6
def k2 := findBlk b 2
def l2 := loopOf k2
def L2 (x0 x1 x2 x7 x8 x9 x10 x27 x28 x29 x41 x42 : AV) (m : Mem) (K : List Item) : Option Res := den prog ann 96 (.code l2 :: .inLoop l2 :: .inBlock 2 :: K) ⟨[(0, x0), (1, x1), (2, x2), (7, x7), (8, x8), (9, x9), (10, x10), (27, x27), (28, x28), (29, x29), (41, x41), (42, x42)], 136, m⟩
def r7 := findReg b 7
def i1 := findCond b 1
def i1t := thenOf i1
def i1e := elseOf i1
def k3 := findBlk b 3
def r8 := findReg b 8
def r9 := findReg b 9
def i2 := findCond b 2
def i2t := thenOf i2
def i2e := elseOf i2
def r10 := findReg b 10
def r11 := findReg b 11
def i3 := findCond b 3
def i3t := thenOf i3
def i3e := elseOf i3
def r12 := findReg b 12
def r13 := findReg b 13
def r14 := findReg b 14
def r15 := findReg b 15
def r16 := findReg b 16
def k4 := findBlk b 4
def l4 := loopOf k4
def L4 (x7 x8 x12 x82 x83 : AV) (m : Mem) (K : List Item) : Option Res := den prog ann 96 (.code l4 :: .inLoop l4 :: .inBlock 4 :: K) ⟨[(7, x7), (8, x8), (12, x12), (82, x82), (83, x83)], 136, m⟩
def r17 := findReg b 17
def i4 := findCond b 4
def i4t := thenOf i4
def i4e := elseOf i4
def k5 := findBlk b 5
def r18 := findReg b 18
def r19 := findReg b 19
def r20 := findReg b 20
def r21 := findReg b 21
def k6 := findBlk b 6
def l6 := loopOf k6
def L6 (x7 x8 x12 x13 x14 x82 x83 : AV) (m : Mem) (K : List Item) : Option Res := den prog ann 96 (.code l6 :: .inLoop l6 :: .inBlock 6 :: K) ⟨[(7, x7), (8, x8), (12, x12), (13, x13), (14, x14), (82, x82), (83, x83)], 136, m⟩
def r22 := findReg b 22
def i5 := findCond b 5
def i5t := thenOf i5
def i5e := elseOf i5
def k7 := findBlk b 7
def r24 := findReg b 24
def k8 := findBlk b 8
def l8 := loopOf k8
def L8 (x7 x8 x12 x13 x14 x82 x83 x109 x110 x111 : AV) (m : Mem) (K : List Item) : Option Res := den prog ann 96 (.code l8 :: .inLoop l8 :: .inBlock 8 :: K) ⟨[(7, x7), (8, x8), (12, x12), (13, x13), (14, x14), (82, x82), (83, x83), (109, x109), (110, x110), (111, x111)], 136, m⟩
def r25 := findReg b 25
def i6 := findCond b 6
def i6t := thenOf i6
def i6e := elseOf i6
def k9 := findBlk b 9
def r26 := findReg b 26
def r27 := findReg b 27
def i7 := findCond b 7
def i7t := thenOf i7
def i7e := elseOf i7
def r28 := findReg b 28
def r29 := findReg b 29
def r30 := findReg b 30
def r23 := findReg b 23
def r31 := findReg b 31
def r32 := findReg b 32
theorem b_eq : den prog ann 96 (.code b :: K) s = den prog ann 96 (.code r0 :: .code r1 :: .code r2 :: .code r3 :: .code k0 :: .code r15 :: .code r16 :: .code k4 :: .code r32 :: .code .ret :: K) s := den_flat hf (l := [r0, r1, r2, r3, k0, r15, r16, k4, r32, .ret]) (by kernel_rfl) K s
theorem r0_eq : den prog ann 96 (.code r0 :: K) s = mreg prog ann 96 none [] none [] [qF 6 fun s => some (.nils)] K s := (den_reg hf _ K s).trans (by kernel_rfl)
theorem r1_eq : den prog ann 96 (.code r1 :: K) s = mreg prog ann 96 none [] none [] [qC 17 0,qA 18 nilA 17,qA 19 (fieldA 2) 18,qA 20 (loadF false 1) 19,qA 21 lenSl 20,qC 7 21] K s := (den_reg hf _ K s).trans (by kernel_rfl)
theorem r2_eq : den prog ann 96 (.code r2 :: K) s = mreg prog ann 96 none [] none [] [qC 22 7,⟨some 23, none, .w false none fun s => makeA 1 24 (.nils) s.m (s.get 22) (s.get 22)⟩,qC 8 23] K s := (den_reg hf _ K s).trans (by kernel_rfl)
theorem r3_eq : den prog ann 96 (.code r3 :: K) s = mreg prog ann 96 none [] none [] [qC 24 0,qA 25 nilA 24,qA 26 (fieldA 2) 25,qA 27 (loadF false 1) 26,qA 28 lenSl 27,qF 29 fun s => some (.int .i64 0)] K s := (den_reg hf _ K s).trans (by kernel_rfl)
theorem k0_eq (K : List Item) (t : List (Nat × AV)) (m : Mem) : den prog ann 96 (.code k0 :: K) ⟨t, 136, m⟩ = L0 (get t 0) (get t 1) (get t 2) (get t 7) (get t 8) (get t 27) (get t 28) (get t 29) m K := den_loop_enter hf (b := l0) (id := 4) (l := [0, 1, 2, 7, 8, 27, 28, 29]) (by kernel_rfl) (by kernel_rfl) (by kernel_rfl) K _
theorem l0_eq (K : List Item) (t : List (Nat × AV)) (m : Mem) : den prog ann 96 (.inLoop l0 :: .inBlock 0 :: K) ⟨t, 136, m⟩ = L0 (get t 0) (get t 1) (get t 2) (get t 7) (get t 8) (get t 27) (get t 28) (get t 29) m K := den_loop_again hf (id := 4) (l := [0, 1, 2, 7, 8, 27, 28, 29]) (by kernel_rfl) (by kernel_rfl) (.inBlock 0 :: K) _
theorem L0_eq (x0 x1 x2 x7 x8 x27 x28 x29 : AV) (m : Mem) (K : List Item) : L0 x0 x1 x2 x7 x8 x27 x28 x29 m K = den prog ann 96 (.code r4 :: .code i0 :: .code k1 :: .code r14 :: .inLoop l0 :: .inBlock 0 :: K) ⟨[(0, x0), (1, x1), (2, x2), (7, x7), (8, x8), (27, x27), (28, x28), (29, x29)], 136, m⟩ := den_flat hf (l := [r4, i0, k1, r14]) (by kernel_rfl) _ _
theorem r4_eq : den prog ann 96 (.code r4 :: K) s = mreg prog ann 96 (some [0, 1, 2, 7, 8, 27, 28, 29]) [] none [] [qB 30 (binA prog .lss 3) 29 28] K s := (den_reg hf _ K s).trans (by kernel_rfl)
theorem i0_eq : den prog ann 96 (.code i0 :: K) s = ifV prog ann 96 30 i0t i0e K s (s.get 30) := den_if hf (by kernel_rfl) K s
theorem i0t_eq : den prog ann 96 (.code i0t :: K) s = den prog ann 96 (K) s := den_flat hf (l := []) (by kernel_rfl) K s
theorem i0e_eq : den prog ann 96 (.code i0e :: K) s = den prog ann 96 (.code (.exit 0) :: K) s := den_flat hf (l := [(.exit 0)]) (by kernel_rfl) K s
theorem k1_eq : den prog ann 96 (.code k1 :: K) s = den prog ann 96 (.code r5 :: .code r6 :: .code k2 :: .inBlock 1 :: K) s := den_blk hf (b := blkOf k1) (l := [r5, r6, k2]) (by kernel_rfl) (by kernel_rfl) K s
theorem r5_eq : den prog ann 96 (.code r5 :: K) s = mreg prog ann 96 none [] none [] [qC 31 29,qB 32 (idxSl 1) 27 29,qA 33 (loadF false 1) 32,qC 9 31,qC 10 33] K s := (den_reg hf _ K s).trans (by kernel_rfl)
theorem r6_eq : den prog ann 96 (.code r6 :: K) s = mreg prog ann 96 none [] none [] [qC 34 0,qA 35 nilA 34,qA 36 (fieldA 0) 35,qA 37 (fieldA 0) 36,qA 38 (loadF false 1) 37,qF 39 fun s => idxSl 1 (s.get 38) (.int .i64 0),qA 40 (loadF false 1) 39,qA 41 lenSl 40,qF 42 fun s => some (.int .i64 0)] K s := (den_reg hf _ K s).trans (by kernel_rfl)
theorem k2_eq (K : List Item) (t : List (Nat × AV)) (m : Mem) : den prog ann 96 (.code k2 :: K) ⟨t, 136, m⟩ = L2 (get t 0) (get t 1) (get t 2) (get t 7) (get t 8) (get t 9) (get t 10) (get t 27) (get t 28) (get t 29) (get t 41) (get t 42) m K := den_loop_enter hf (b := l2) (id := 7) (l := [0, 1, 2, 7, 8, 9, 10, 27, 28, 29, 41, 42]) (by kernel_rfl) (by kernel_rfl) (by kernel_rfl) K _
theorem l2_eq (K : List Item) (t : List (Nat × AV)) (m : Mem) : den prog ann 96 (.inLoop l2 :: .inBlock 2 :: K) ⟨t, 136, m⟩ = L2 (get t 0) (get t 1) (get t 2) (get t 7) (get t 8) (get t 9) (get t 10) (get t 27) (get t 28) (get t 29) (get t 41) (get t 42) m K := den_loop_again hf (id := 7) (l := [0, 1, 2, 7, 8, 9, 10, 27, 28, 29, 41, 42]) (by kernel_rfl) (by kernel_rfl) (.inBlock 2 :: K) _
theorem L2_eq (x0 x1 x2 x7 x8 x9 x10 x27 x28 x29 x41 x42 : AV) (m : Mem) (K : List Item) : L2 x0 x1 x2 x7 x8 x9 x10 x27 x28 x29 x41 x42 m K = den prog ann 96 (.code r7 :: .code i1 :: .code k3 :: .code r13 :: .inLoop l2 :: .inBlock 2 :: K) ⟨[(0, x0), (1, x1), (2, x2), (7, x7), (8, x8), (9, x9), (10, x10), (27, x27), (28, x28), (29, x29), (41, x41), (42, x42)], 136, m⟩ := den_flat hf (l := [r7, i1, k3, r13]) (by kernel_rfl) _ _
theorem r7_eq : den prog ann 96 (.code r7 :: K) s = mreg prog ann 96 (some [0, 1, 2, 7, 8, 9, 10, 27, 28, 29, 41, 42]) [] none [] [qB 43 (binA prog .lss 3) 42 41] K s := (den_reg hf _ K s).trans (by kernel_rfl)
theorem i1_eq : den prog ann 96 (.code i1 :: K) s = ifV prog ann 96 43 i1t i1e K s (s.get 43) := den_if hf (by kernel_rfl) K s
theorem i1t_eq : den prog ann 96 (.code i1t :: K) s = den prog ann 96 (K) s := den_flat hf (l := []) (by kernel_rfl) K s
theorem i1e_eq : den prog ann 96 (.code i1e :: K) s = den prog ann 96 (.code (.exit 2) :: K) s := den_flat hf (l := [(.exit 2)]) (by kernel_rfl) K s
theorem k3_eq : den prog ann 96 (.code k3 :: K) s = den prog ann 96 (.code r8 :: .code r9 :: .code i2 :: .code r11 :: .code i3 :: .inBlock 3 :: K) s := den_blk hf (b := blkOf k3) (l := [r8, r9, i2, r11, i3]) (by kernel_rfl) (by kernel_rfl) K s
theorem r8_eq : den prog ann 96 (.code r8 :: K) s = mreg prog ann 96 none [] none [] [qC 44 42,qC 11 44] K s := (den_reg hf _ K s).trans (by kernel_rfl)
theorem r9_eq : den prog ann 96 (.code r9 :: K) s = mreg prog ann 96 none [] none [] [qC 45 1] K s := (den_reg hf _ K s).trans (by kernel_rfl)
theorem i2_eq : den prog ann 96 (.code i2 :: K) s = ifV prog ann 96 45 i2t i2e K s (s.get 45) := den_if hf (by kernel_rfl) K s
theorem i2t_eq : den prog ann 96 (.code i2t :: K) s = den prog ann 96 (.code r10 :: K) s := den_flat hf (l := [r10]) (by kernel_rfl) K s
theorem r10_draw : drawOk (fun g => (ann g).pure) (modeOf (ann 96) (idOf r10)) (frzOf (ann 96) (idOf r10)) (opsOf r10) = true := drawOk_of (an := [0, 0, 0, 0, 12, 28, 0, 0, 128, 0, 896, 1984, 4032, 8188, 16383, 32767]) (by kernel_rfl) (by kernel_rfl)
theorem r10_eq : den prog ann 96 (.code r10 :: K) s = mreg prog ann 96 none [] (some 16) [] [qC 46 8,qC 47 9,qC 48 8,qC 49 9,qB 50 (idxSl 1) 48 49,qF 51 fun s => loadA false 1 s.m (s.get 50),qC 52 0,qC 53 11,⟨some 54, none, .c 0 (fun s => (.fn 59 [] [])) fun s => [(s.get 53)]⟩,qC 55 10,qB 56 (binA prog .add 9) 54 55,⟨some 57, none, .c 0 (fun s => (.fn 71 [] [])) fun s => [(s.get 52), (s.get 56)]⟩,qF 58 fun s => bslF 1 (bslA 1 1 [.int .i64 0] [(0, (s.get 57))]),⟨some 59, none, .w false (some 13) fun s => appendA 1 8 s.m (s.get 51) (s.get 58)⟩,qB 60 (idxSl 1) 46 47,⟨none, none, .w false (some 15) fun s => stA false 1 s.m (s.get 60) (s.get 59)⟩] K s := (den_regD hf r10_draw K s).trans (by kernel_rfl)
theorem i2e_eq : den prog ann 96 (.code i2e :: K) s = den prog ann 96 (K) s := den_flat hf (l := []) (by kernel_rfl) K s
theorem r11_eq : den prog ann 96 (.code r11 :: K) s = mreg prog ann 96 (some [0, 1, 2, 7, 8, 9, 10, 11, 27, 28, 29, 41, 42]) [] none [] [qC 61 2] K s := (den_reg hf _ K s).trans (by kernel_rfl)
theorem i3_eq : den prog ann 96 (.code i3 :: K) s = ifV prog ann 96 61 i3t i3e K s (s.get 61) := den_if hf (by kernel_rfl) K s
theorem i3t_eq : den prog ann 96 (.code i3t :: K) s = den prog ann 96 (.code r12 :: K) s := den_flat hf (l := [r12]) (by kernel_rfl) K s
theorem r12_draw : drawOk (fun g => (ann g).pure) (modeOf (ann 96) (idOf r12)) (frzOf (ann 96) (idOf r12)) (opsOf r12) = true := drawOk_of (an := [0, 0, 0, 0, 12, 28, 0, 0, 0, 256, 896, 1984, 4032, 8188, 16383, 32767]) (by kernel_rfl) (by kernel_rfl)
theorem r12_eq : den prog ann 96 (.code r12 :: K) s = mreg prog ann 96 none [] (some 16) [] [qC 62 8,qC 63 9,qC 64 8,qC 65 9,qB 66 (idxSl 1) 64 65,qF 67 fun s => loadA false 1 s.m (s.get 66),qC 68 0,qC 69 10,qC 70 11,⟨some 71, none, .c 0 (fun s => (.fn 59 [] [])) fun s => [(s.get 70)]⟩,qB 72 (binA prog .add 9) 69 71,⟨some 73, none, .c 0 (fun s => (.fn 71 [] [])) fun s => [(s.get 68), (s.get 72)]⟩,qF 74 fun s => bslF 1 (bslA 1 1 [.int .i64 0] [(0, (s.get 73))]),⟨some 75, none, .w false (some 13) fun s => appendA 1 8 s.m (s.get 67) (s.get 74)⟩,qB 76 (idxSl 1) 62 63,⟨none, none, .w false (some 15) fun s => stA false 1 s.m (s.get 76) (s.get 75)⟩] K s := (den_regD hf r12_draw K s).trans (by kernel_rfl)
theorem i3e_eq : den prog ann 96 (.code i3e :: K) s = den prog ann 96 (K) s := den_flat hf (l := []) (by kernel_rfl) K s
theorem r13_eq : den prog ann 96 (.code r13 :: K) s = mreg prog ann 96 (some [0, 1, 2, 7, 8, 9, 10, 27, 28, 29, 41, 42]) [] none [] [qF 77 fun s => binA prog .add 3 (s.get 42) (.int .i64 1),qC 42 77] K s := (den_reg hf _ K s).trans (by kernel_rfl)
theorem r14_eq : den prog ann 96 (.code r14 :: K) s = mreg prog ann 96 (some [0, 1, 2, 7, 8, 27, 28, 29]) [] none [] [qF 78 fun s => binA prog .add 3 (s.get 29) (.int .i64 1),qC 29 78] K s := (den_reg hf _ K s).trans (by kernel_rfl)
theorem r15_eq : den prog ann 96 (.code r15 :: K) s = mreg prog ann 96 (some [7, 8]) [] none [] [qC 79 7,⟨some 80, none, .w false none fun s => makeA 1 24 (.nils) s.m (s.get 79) (s.get 79)⟩,qC 12 80] K s := (den_reg hf _ K s).trans (by kernel_rfl)
theorem r16_eq : den prog ann 96 (.code r16 :: K) s = mreg prog ann 96 none [] none [] [qC 81 12,qA 82 lenSl 81,qF 83 fun s => some (.int .i64 0)] K s := (den_reg hf _ K s).trans (by kernel_rfl)
theorem k4_eq (K : List Item) (t : List (Nat × AV)) (m : Mem) : den prog ann 96 (.code k4 :: K) ⟨t, 136, m⟩ = L4 (get t 7) (get t 8) (get t 12) (get t 82) (get t 83) m K := den_loop_enter hf (b := l4) (id := 17) (l := [7, 8, 12, 82, 83]) (by kernel_rfl) (by kernel_rfl) (by kernel_rfl) K _
theorem l4_eq (K : List Item) (t : List (Nat × AV)) (m : Mem) : den prog ann 96 (.inLoop l4 :: .inBlock 4 :: K) ⟨t, 136, m⟩ = L4 (get t 7) (get t 8) (get t 12) (get t 82) (get t 83) m K := den_loop_again hf (id := 17) (l := [7, 8, 12, 82, 83]) (by kernel_rfl) (by kernel_rfl) (.inBlock 4 :: K) _
theorem L4_eq (x7 x8 x12 x82 x83 : AV) (m : Mem) (K : List Item) : L4 x7 x8 x12 x82 x83 m K = den prog ann 96 (.code r17 :: .code i4 :: .code k5 :: .code r31 :: .inLoop l4 :: .inBlock 4 :: K) ⟨[(7, x7), (8, x8), (12, x12), (82, x82), (83, x83)], 136, m⟩ := den_flat hf (l := [r17, i4, k5, r31]) (by kernel_rfl) _ _
theorem r17_eq : den prog ann 96 (.code r17 :: K) s = mreg prog ann 96 (some [7, 8, 12, 82, 83]) [] none [] [qB 84 (binA prog .lss 3) 83 82] K s := (den_reg hf _ K s).trans (by kernel_rfl)
theorem i4_eq : den prog ann 96 (.code i4 :: K) s = ifV prog ann 96 84 i4t i4e K s (s.get 84) := den_if hf (by kernel_rfl) K s
theorem i4t_eq : den prog ann 96 (.code i4t :: K) s = den prog ann 96 (K) s := den_flat hf (l := []) (by kernel_rfl) K s
theorem i4e_eq : den prog ann 96 (.code i4e :: K) s = den prog ann 96 (.code (.exit 4) :: K) s := den_flat hf (l := [(.exit 4)]) (by kernel_rfl) K s
theorem k5_eq : den prog ann 96 (.code k5 :: K) s = den prog ann 96 (.code r18 :: .code r19 :: .code r20 :: .code r21 :: .code k6 :: .inBlock 5 :: K) s := den_blk hf (b := blkOf k5) (l := [r18, r19, r20, r21, k6]) (by kernel_rfl) (by kernel_rfl) K s
theorem r18_eq : den prog ann 96 (.code r18 :: K) s = mreg prog ann 96 none [] none [] [qC 85 83,qC 13 85] K s := (den_reg hf _ K s).trans (by kernel_rfl)
theorem r19_eq : den prog ann 96 (.code r19 :: K) s = mreg prog ann 96 none [] none [] [qC 86 12,qC 87 13,qC 88 7,⟨some 89, none, .w false none fun s => makeA 1 1 (.bool false) s.m (s.get 88) (s.get 88)⟩,qB 90 (idxSl 1) 86 87,⟨none, none, .w false none fun s => stA false 1 s.m (s.get 90) (s.get 89)⟩] K s := (den_reg hf _ K s).trans (by kernel_rfl)
theorem r20_eq : den prog ann 96 (.code r20 :: K) s = mreg prog ann 96 none [] none [] [qC 91 12,qC 92 13,qB 93 (idxSl 1) 91 92,qF 94 fun s => loadA false 1 s.m (s.get 93),qC 95 13,qB 96 (idxSl 1) 94 95,⟨none, none, .w false none fun s => stA false 1 s.m (s.get 96) (.bool true)⟩] K s := (den_reg hf _ K s).trans (by kernel_rfl)
theorem r21_eq : den prog ann 96 (.code r21 :: K) s = mreg prog ann 96 none [] none [] [qC 97 13,⟨some 98, none, .w false none fun s => bslM s.m 1 (bslA 1 1 [.int .i64 0] [(0, (s.get 97))])⟩,qC 14 98] K s := (den_reg hf _ K s).trans (by kernel_rfl)
theorem k6_eq (K : List Item) (t : List (Nat × AV)) (m : Mem) : den prog ann 96 (.code k6 :: K) ⟨t, 136, m⟩ = L6 (get t 7) (get t 8) (get t 12) (get t 13) (get t 14) (get t 82) (get t 83) m K := den_loop_enter hf (b := l6) (id := 22) (l := [7, 8, 12, 13, 14, 82, 83]) (by kernel_rfl) (by kernel_rfl) (by kernel_rfl) K _
theorem l6_eq (K : List Item) (t : List (Nat × AV)) (m : Mem) : den prog ann 96 (.inLoop l6 :: .inBlock 6 :: K) ⟨t, 136, m⟩ = L6 (get t 7) (get t 8) (get t 12) (get t 13) (get t 14) (get t 82) (get t 83) m K := den_loop_again hf (id := 22) (l := [7, 8, 12, 13, 14, 82, 83]) (by kernel_rfl) (by kernel_rfl) (.inBlock 6 :: K) _
theorem L6_eq (x7 x8 x12 x13 x14 x82 x83 : AV) (m : Mem) (K : List Item) : L6 x7 x8 x12 x13 x14 x82 x83 m K = den prog ann 96 (.code r22 :: .code i5 :: .code k7 :: .code r23 :: .inLoop l6 :: .inBlock 6 :: K) ⟨[(7, x7), (8, x8), (12, x12), (13, x13), (14, x14), (82, x82), (83, x83)], 136, m⟩ := den_flat hf (l := [r22, i5, k7, r23]) (by kernel_rfl) _ _
theorem r22_eq : den prog ann 96 (.code r22 :: K) s = mreg prog ann 96 (some [7, 8, 12, 13, 14, 82, 83]) [] none [] [qC 99 14,qA 100 lenSl 99,qF 101 fun s => binA prog .gtr 3 (s.get 100) (.int .i64 0)] K s := (den_reg hf _ K s).trans (by kernel_rfl)
theorem i5_eq : den prog ann 96 (.code i5 :: K) s = ifV prog ann 96 101 i5t i5e K s (s.get 101) := den_if hf (by kernel_rfl) K s
theorem i5t_eq : den prog ann 96 (.code i5t :: K) s = den prog ann 96 (K) s := den_flat hf (l := []) (by kernel_rfl) K s
theorem i5e_eq : den prog ann 96 (.code i5e :: K) s = den prog ann 96 (.code (.exit 6) :: K) s := den_flat hf (l := [(.exit 6)]) (by kernel_rfl) K s
theorem k7_eq : den prog ann 96 (.code k7 :: K) s = den prog ann 96 (.code r24 :: .code k8 :: .inBlock 7 :: K) s := den_blk hf (b := blkOf k7) (l := [r24, k8]) (by kernel_rfl) (by kernel_rfl) K s
theorem r24_eq : den prog ann 96 (.code r24 :: K) s = mreg prog ann 96 none [] none [] [qC 104 8,qC 105 14,qF 106 fun s => idxSl 1 (s.get 105) (.int .i64 0),qF 107 fun s => loadA false 1 s.m (s.get 106),qB 108 (idxSl 1) 104 107,qF 109 fun s => loadA false 1 s.m (s.get 108),qA 110 lenSl 109,qF 111 fun s => some (.int .i64 0)] K s := (den_reg hf _ K s).trans (by kernel_rfl)
theorem k8_eq (K : List Item) (t : List (Nat × AV)) (m : Mem) : den prog ann 96 (.code k8 :: K) ⟨t, 136, m⟩ = L8 (get t 7) (get t 8) (get t 12) (get t 13) (get t 14) (get t 82) (get t 83) (get t 109) (get t 110) (get t 111) m K := den_loop_enter hf (b := l8) (id := 25) (l := [7, 8, 12, 13, 14, 82, 83, 109, 110, 111]) (by kernel_rfl) (by kernel_rfl) (by kernel_rfl) K _
theorem l8_eq (K : List Item) (t : List (Nat × AV)) (m : Mem) : den prog ann 96 (.inLoop l8 :: .inBlock 8 :: K) ⟨t, 136, m⟩ = L8 (get t 7) (get t 8) (get t 12) (get t 13) (get t 14) (get t 82) (get t 83) (get t 109) (get t 110) (get t 111) m K := den_loop_again hf (id := 25) (l := [7, 8, 12, 13, 14, 82, 83, 109, 110, 111]) (by kernel_rfl) (by kernel_rfl) (.inBlock 8 :: K) _
theorem L8_eq (x7 x8 x12 x13 x14 x82 x83 x109 x110 x111 : AV) (m : Mem) (K : List Item) : L8 x7 x8 x12 x13 x14 x82 x83 x109 x110 x111 m K = den prog ann 96 (.code r25 :: .code i6 :: .code k9 :: .code r30 :: .inLoop l8 :: .inBlock 8 :: K) ⟨[(7, x7), (8, x8), (12, x12), (13, x13), (14, x14), (82, x82), (83, x83), (109, x109), (110, x110), (111, x111)], 136, m⟩ := den_flat hf (l := [r25, i6, k9, r30]) (by kernel_rfl) _ _
theorem r25_eq : den prog ann 96 (.code r25 :: K) s = mreg prog ann 96 (some [7, 8, 12, 13, 14, 82, 83, 109, 110, 111]) [] none [] [qB 112 (binA prog .lss 3) 111 110] K s := (den_reg hf _ K s).trans (by kernel_rfl)
theorem i6_eq : den prog ann 96 (.code i6 :: K) s = ifV prog ann 96 112 i6t i6e K s (s.get 112) := den_if hf (by kernel_rfl) K s
theorem i6t_eq : den prog ann 96 (.code i6t :: K) s = den prog ann 96 (K) s := den_flat hf (l := []) (by kernel_rfl) K s
theorem i6e_eq : den prog ann 96 (.code i6e :: K) s = den prog ann 96 (.code (.exit 8) :: K) s := den_flat hf (l := [(.exit 8)]) (by kernel_rfl) K s
theorem k9_eq : den prog ann 96 (.code k9 :: K) s = den prog ann 96 (.code r26 :: .code r27 :: .code i7 :: .inBlock 9 :: K) s := den_blk hf (b := blkOf k9) (l := [r26, r27, i7]) (by kernel_rfl) (by kernel_rfl) K s
theorem r26_eq : den prog ann 96 (.code r26 :: K) s = mreg prog ann 96 none [] none [] [qB 113 (idxSl 1) 109 111,qF 114 fun s => loadA false 1 s.m (s.get 113),qC 16 114] K s := (den_reg hf _ K s).trans (by kernel_rfl)
theorem r27_eq : den prog ann 96 (.code r27 :: K) s = mreg prog ann 96 none [] none [] [qC 115 12,qC 116 13,qB 117 (idxSl 1) 115 116,qF 118 fun s => loadA false 1 s.m (s.get 117),qC 119 16,qB 120 (idxSl 1) 118 119,qF 121 fun s => loadA false 1 s.m (s.get 120),qA 122 (unA .not) 121] K s := (den_reg hf _ K s).trans (by kernel_rfl)
theorem i7_eq : den prog ann 96 (.code i7 :: K) s = ifV prog ann 96 122 i7t i7e K s (s.get 122) := den_if hf (by kernel_rfl) K s
theorem i7t_eq : den prog ann 96 (.code i7t :: K) s = den prog ann 96 (.code r28 :: .code r29 :: K) s := den_flat hf (l := [r28, r29]) (by kernel_rfl) K s
theorem r28_eq : den prog ann 96 (.code r28 :: K) s = mreg prog ann 96 none [] none [] [qC 123 12,qC 124 13,qB 125 (idxSl 1) 123 124,qF 126 fun s => loadA false 1 s.m (s.get 125),qC 127 16,qB 128 (idxSl 1) 126 127,⟨none, none, .w false none fun s => stA false 1 s.m (s.get 128) (.bool true)⟩] K s := (den_reg hf _ K s).trans (by kernel_rfl)
theorem r29_eq : den prog ann 96 (.code r29 :: K) s = mreg prog ann 96 none [] none [] [qC 129 14,qC 130 16,qF 131 fun s => bslF 1 (bslA 1 1 [.int .i64 0] [(0, (s.get 130))]),⟨some 132, none, .w false none fun s => appendA 1 8 s.m (s.get 129) (s.get 131)⟩,qC 14 132] K s := (den_reg hf _ K s).trans (by kernel_rfl)
theorem i7e_eq : den prog ann 96 (.code i7e :: K) s = den prog ann 96 (K) s := den_flat hf (l := []) (by kernel_rfl) K s
theorem r30_eq : den prog ann 96 (.code r30 :: K) s = mreg prog ann 96 (some [7, 8, 12, 13, 14, 82, 83, 109, 110, 111]) [] none [] [qF 133 fun s => binA prog .add 3 (s.get 111) (.int .i64 1),qC 111 133] K s := (den_reg hf _ K s).trans (by kernel_rfl)
theorem r23_eq : den prog ann 96 (.code r23 :: K) s = mreg prog ann 96 (some [7, 8, 12, 13, 14, 82, 83]) [] none [] [qC 102 14,qF 103 fun s => sliceSl 1 (s.get 102) (some (.int .i64 1)) none,qC 14 103] K s := (den_reg hf _ K s).trans (by kernel_rfl)
theorem r31_eq : den prog ann 96 (.code r31 :: K) s = mreg prog ann 96 (some [7, 8, 12, 82, 83]) [] none [] [qF 134 fun s => binA prog .add 3 (s.get 83) (.int .i64 1),qC 83 134] K s := (den_reg hf _ K s).trans (by kernel_rfl)
theorem r32_eq : den prog ann 96 (.code r32 :: K) s = mreg prog ann 96 (some [12]) [] none [] [qC 135 12,qC 6 135] K s := (den_reg hf _ K s).trans (by kernel_rfl)
theorem ret_eq : den prog ann 96 (.code .ret :: K) s = finM true [fun s => some (s.get 6)] s := (den_ret hf K s).trans (by kernel_rfl)
theorem nil_eq (s : St) : den prog ann 96 [] s = finM true [fun s => some (s.get 6)] s := (den_nil hf s).trans (by kernel_rfl)
theorem inBlock_eq (id : Nat) (K : List Item) (s : St) : den prog ann 96 (.inBlock id :: K) s = den prog ann 96 K s := den_inBlock hf id K s
theorem exit_eq (id : Nat) (K : List Item) (s : St) : den prog ann 96 (.code (.exit id) :: K) s = exitV prog ann 96 (exitTo id K) s := den_exitV hf id K s
theorem call_eq (v0 v1 v2 : AV) (m : Mem) (h : closedL [v0, v1, v2] = true) : denC prog ann 96 [v0, v1, v2] m = (den prog ann 96 [.code b] ⟨[(0, v0), (1, v1), (2, v2)], 136, Mem.empty⟩).bind fun r => some (r.1, m) := (denC_pure hf (b := b) (by kernel_rfl) (by kernel_rfl) (by kernel_rfl) h m).trans (by kernel_rfl)
theorem pure_eq : (ann 96).pure = true := by kernel_rfl
attribute [simp] b_eq r0_eq r1_eq r2_eq r3_eq k0_eq l0_eq r4_eq i0_eq i0t_eq i0e_eq k1_eq r5_eq r6_eq k2_eq l2_eq r7_eq i1_eq i1t_eq i1e_eq k3_eq r8_eq r9_eq i2_eq i2t_eq r10_eq i2e_eq r11_eq i3_eq i3t_eq r12_eq i3e_eq r13_eq r14_eq r15_eq r16_eq k4_eq l4_eq r17_eq i4_eq i4t_eq i4e_eq k5_eq r18_eq r19_eq r20_eq r21_eq k6_eq l6_eq r22_eq i5_eq i5t_eq i5e_eq k7_eq r24_eq k8_eq l8_eq r25_eq i6_eq i6t_eq i6e_eq k9_eq r26_eq r27_eq i7_eq i7t_eq r28_eq r29_eq i7e_eq r30_eq r23_eq r31_eq r32_eq ret_eq nil_eq inBlock_eq exit_eq pure_eq
end
end brand_monoid_below
namespace brand_classed
noncomputable section
variable (K : List Item) (s : St)
def b : Code := (Try.f76.body).getD .skip
theorem hf : prog.funcs[76]? = some Try.f76 := by kernel_rfl
def r0 := findReg b 0
def r1 := findReg b 1
def r2 := findReg b 2
def i0 := findCond b 0
def i0t := thenOf i0
def i0e := elseOf i0
def r3 := findReg b 3
def r4 := findReg b 4
theorem b_eq : den prog ann 76 (.code b :: K) s = den prog ann 76 (.code r0 :: .code r1 :: .code r2 :: .code i0 :: .code r4 :: .code .ret :: K) s := den_flat hf (l := [r0, r1, r2, i0, r4, .ret]) (by kernel_rfl) K s
theorem r0_eq : den prog ann 76 (.code r0 :: K) s = mreg prog ann 76 none [] none [] [qA 3 frozenPtr 0,qF 6 fun s => some (.nils),qF 7 fun s => some (.int .i64 0)] K s := (den_reg hf _ K s).trans (by kernel_rfl)
theorem r1_eq : den prog ann 76 (.code r1 :: K) s = mreg prog ann 76 none [] none [] [qA 11 (loadF true 2) 3,⟨some 12, none, .c 0 (fun s => (.fn 70 [] [])) fun s => [(s.get 11)]⟩,qC 10 12,qF 13 fun s => extA (s.get 10) 0,qF 14 fun s => extA (s.get 10) 1,qC 8 13,qC 9 14] K s := (den_reg hf _ K s).trans (by kernel_rfl)
theorem r2_eq : den prog ann 76 (.code r2 :: K) s = mreg prog ann 76 none [] none [] [qC 15 9,qF 16 fun s => binA prog .neq 27 (s.get 15) (.int .i64 0)] K s := (den_reg hf _ K s).trans (by kernel_rfl)
theorem i0_eq : den prog ann 76 (.code i0 :: K) s = ifV prog ann 76 16 i0t i0e K s (s.get 16) := den_if hf (by kernel_rfl) K s
theorem i0t_eq : den prog ann 76 (.code i0t :: K) s = den prog ann 76 (.code r3 :: .code .ret :: K) s := den_flat hf (l := [r3, .ret]) (by kernel_rfl) K s
theorem r3_eq : den prog ann 76 (.code r3 :: K) s = mreg prog ann 76 none [] none [] [qC 17 9,qF 6 fun s => some (.nils),qC 7 17] K s := (den_reg hf _ K s).trans (by kernel_rfl)
theorem i0e_eq : den prog ann 76 (.code i0e :: K) s = den prog ann 76 (K) s := den_flat hf (l := []) (by kernel_rfl) K s
theorem r4_eq : den prog ann 76 (.code r4 :: K) s = mreg prog ann 76 none [] none [] [qC 18 8,qC 19 1,qC 20 2,⟨some 21, none, .c 0 (fun s => (.fn 89 [] [])) fun s => [(s.get 18), (s.get 19), (s.get 20)]⟩,qC 6 21,qF 7 fun s => some (.int .i64 0)] K s := (den_reg hf _ K s).trans (by kernel_rfl)
theorem ret_eq : den prog ann 76 (.code .ret :: K) s = finM true [fun s => some (s.get 6), fun s => some (s.get 7)] s := (den_ret hf K s).trans (by kernel_rfl)
theorem nil_eq (s : St) : den prog ann 76 [] s = finM true [fun s => some (s.get 6), fun s => some (s.get 7)] s := (den_nil hf s).trans (by kernel_rfl)
theorem inBlock_eq (id : Nat) (K : List Item) (s : St) : den prog ann 76 (.inBlock id :: K) s = den prog ann 76 K s := den_inBlock hf id K s
theorem exit_eq (id : Nat) (K : List Item) (s : St) : den prog ann 76 (.code (.exit id) :: K) s = exitV prog ann 76 (exitTo id K) s := den_exitV hf id K s
theorem call_eq (v0 v1 v2 : AV) (m : Mem) (h : closedL [v0, v1, v2] = true) : denC prog ann 76 [v0, v1, v2] m = (den prog ann 76 [.code b] ⟨[(0, v0), (1, v1), (2, v2)], 22, Mem.empty⟩).bind fun r => some (r.1, m) := (denC_pure hf (b := b) (by kernel_rfl) (by kernel_rfl) (by kernel_rfl) h m).trans (by kernel_rfl)
theorem pure_eq : (ann 76).pure = true := by kernel_rfl
attribute [simp] b_eq r0_eq r1_eq r2_eq i0_eq i0t_eq r3_eq i0e_eq r4_eq ret_eq nil_eq inBlock_eq exit_eq pure_eq
end
end brand_classed
namespace brand_Classes
noncomputable section
variable (K : List Item) (s : St)
def b : Code := (Try.f45.body).getD .skip
theorem hf : prog.funcs[45]? = some Try.f45 := by kernel_rfl
def r0 := findReg b 0
def r1 := findReg b 1
theorem b_eq : den prog ann 45 (.code b :: K) s = den prog ann 45 (.code r0 :: .code r1 :: .code .ret :: K) s := den_flat hf (l := [r0, r1, .ret]) (by kernel_rfl) K s
theorem r0_eq : den prog ann 45 (.code r0 :: K) s = mreg prog ann 45 none [] none [] [qA 1 frozenPtr 0,qF 2 fun s => some (.nils),qF 3 fun s => some (.int .i64 0)] K s := (den_reg hf _ K s).trans (by kernel_rfl)
theorem r1_eq : den prog ann 45 (.code r1 :: K) s = mreg prog ann 45 none [] none [] [qA 4 (loadF true 2) 1,⟨some 5, none, .c 0 (fun s => (.fn 76 [] [])) fun s => [(s.get 4), (.bool true), (.bool true)]⟩,qF 6 fun s => extA (s.get 5) 0,qF 7 fun s => extA (s.get 5) 1,qC 2 6,qC 3 7] K s := (den_reg hf _ K s).trans (by kernel_rfl)
theorem ret_eq : den prog ann 45 (.code .ret :: K) s = finM true [fun s => some (s.get 2), fun s => some (s.get 3)] s := (den_ret hf K s).trans (by kernel_rfl)
theorem nil_eq (s : St) : den prog ann 45 [] s = finM true [fun s => some (s.get 2), fun s => some (s.get 3)] s := (den_nil hf s).trans (by kernel_rfl)
theorem inBlock_eq (id : Nat) (K : List Item) (s : St) : den prog ann 45 (.inBlock id :: K) s = den prog ann 45 K s := den_inBlock hf id K s
theorem exit_eq (id : Nat) (K : List Item) (s : St) : den prog ann 45 (.code (.exit id) :: K) s = exitV prog ann 45 (exitTo id K) s := den_exitV hf id K s
theorem call_eq (v0 : AV) (m : Mem) (h : closedL [v0] = true) : denC prog ann 45 [v0] m = (den prog ann 45 [.code b] ⟨[(0, v0)], 8, Mem.empty⟩).bind fun r => some (r.1, m) := (denC_pure hf (b := b) (by kernel_rfl) (by kernel_rfl) (by kernel_rfl) h m).trans (by kernel_rfl)
theorem pure_eq : (ann 45).pure = true := by kernel_rfl
attribute [simp] b_eq r0_eq r1_eq ret_eq nil_eq inBlock_eq exit_eq pure_eq
end
end brand_Classes
namespace brand_Left
noncomputable section
variable (K : List Item) (s : St)
def b : Code := (Try.f47.body).getD .skip
theorem hf : prog.funcs[47]? = some Try.f47 := by kernel_rfl
def r0 := findReg b 0
def r1 := findReg b 1
theorem b_eq : den prog ann 47 (.code b :: K) s = den prog ann 47 (.code r0 :: .code r1 :: .code .ret :: K) s := den_flat hf (l := [r0, r1, .ret]) (by kernel_rfl) K s
theorem r0_eq : den prog ann 47 (.code r0 :: K) s = mreg prog ann 47 none [] none [] [qA 1 frozenPtr 0,qF 2 fun s => some (.nils),qF 3 fun s => some (.int .i64 0)] K s := (den_reg hf _ K s).trans (by kernel_rfl)
theorem r1_eq : den prog ann 47 (.code r1 :: K) s = mreg prog ann 47 none [] none [] [qA 4 (loadF true 2) 1,⟨some 5, none, .c 0 (fun s => (.fn 76 [] [])) fun s => [(s.get 4), (.bool true), (.bool false)]⟩,qF 6 fun s => extA (s.get 5) 0,qF 7 fun s => extA (s.get 5) 1,qC 2 6,qC 3 7] K s := (den_reg hf _ K s).trans (by kernel_rfl)
theorem ret_eq : den prog ann 47 (.code .ret :: K) s = finM true [fun s => some (s.get 2), fun s => some (s.get 3)] s := (den_ret hf K s).trans (by kernel_rfl)
theorem nil_eq (s : St) : den prog ann 47 [] s = finM true [fun s => some (s.get 2), fun s => some (s.get 3)] s := (den_nil hf s).trans (by kernel_rfl)
theorem inBlock_eq (id : Nat) (K : List Item) (s : St) : den prog ann 47 (.inBlock id :: K) s = den prog ann 47 K s := den_inBlock hf id K s
theorem exit_eq (id : Nat) (K : List Item) (s : St) : den prog ann 47 (.code (.exit id) :: K) s = exitV prog ann 47 (exitTo id K) s := den_exitV hf id K s
theorem call_eq (v0 : AV) (m : Mem) (h : closedL [v0] = true) : denC prog ann 47 [v0] m = (den prog ann 47 [.code b] ⟨[(0, v0)], 8, Mem.empty⟩).bind fun r => some (r.1, m) := (denC_pure hf (b := b) (by kernel_rfl) (by kernel_rfl) (by kernel_rfl) h m).trans (by kernel_rfl)
theorem pure_eq : (ann 47).pure = true := by kernel_rfl
attribute [simp] b_eq r0_eq r1_eq ret_eq nil_eq inBlock_eq exit_eq pure_eq
end
end brand_Left
namespace brand_Right
noncomputable section
variable (K : List Item) (s : St)
def b : Code := (Try.f48.body).getD .skip
theorem hf : prog.funcs[48]? = some Try.f48 := by kernel_rfl
def r0 := findReg b 0
def r1 := findReg b 1
theorem b_eq : den prog ann 48 (.code b :: K) s = den prog ann 48 (.code r0 :: .code r1 :: .code .ret :: K) s := den_flat hf (l := [r0, r1, .ret]) (by kernel_rfl) K s
theorem r0_eq : den prog ann 48 (.code r0 :: K) s = mreg prog ann 48 none [] none [] [qA 1 frozenPtr 0,qF 2 fun s => some (.nils),qF 3 fun s => some (.int .i64 0)] K s := (den_reg hf _ K s).trans (by kernel_rfl)
theorem r1_eq : den prog ann 48 (.code r1 :: K) s = mreg prog ann 48 none [] none [] [qA 4 (loadF true 2) 1,⟨some 5, none, .c 0 (fun s => (.fn 76 [] [])) fun s => [(s.get 4), (.bool false), (.bool true)]⟩,qF 6 fun s => extA (s.get 5) 0,qF 7 fun s => extA (s.get 5) 1,qC 2 6,qC 3 7] K s := (den_reg hf _ K s).trans (by kernel_rfl)
theorem ret_eq : den prog ann 48 (.code .ret :: K) s = finM true [fun s => some (s.get 2), fun s => some (s.get 3)] s := (den_ret hf K s).trans (by kernel_rfl)
theorem nil_eq (s : St) : den prog ann 48 [] s = finM true [fun s => some (s.get 2), fun s => some (s.get 3)] s := (den_nil hf s).trans (by kernel_rfl)
theorem inBlock_eq (id : Nat) (K : List Item) (s : St) : den prog ann 48 (.inBlock id :: K) s = den prog ann 48 K s := den_inBlock hf id K s
theorem exit_eq (id : Nat) (K : List Item) (s : St) : den prog ann 48 (.code (.exit id) :: K) s = exitV prog ann 48 (exitTo id K) s := den_exitV hf id K s
theorem call_eq (v0 : AV) (m : Mem) (h : closedL [v0] = true) : denC prog ann 48 [v0] m = (den prog ann 48 [.code b] ⟨[(0, v0)], 8, Mem.empty⟩).bind fun r => some (r.1, m) := (denC_pure hf (b := b) (by kernel_rfl) (by kernel_rfl) (by kernel_rfl) h m).trans (by kernel_rfl)
theorem pure_eq : (ann 48).pure = true := by kernel_rfl
attribute [simp] b_eq r0_eq r1_eq ret_eq nil_eq inBlock_eq exit_eq pure_eq
end
end brand_Right
end Go.Proofs.Ythnpflkpjimkfaa

/-
  BELOW: the program's steps, a table of lists. Conditions: none.
-/
namespace Go.Proofs.Ythnpflkpjimkfaa
open Go.AM
open Go.Proofs.Try (prog)
set_option linter.all false
set_option maxRecDepth 100000
set_option maxHeartbeats 8000000
def vat (vs : List AV) (i : Nat) : AV := vs.getD i .nils
def lat (L : List (List Nat)) (i : Nat) : List Nat := L.getD i []
theorem vat_set {vs : List AV} {i j : Nat} {x : AV} (h : i < vs.length) : vat (vs.set i x) j = if i = j then x else vat vs j := by
  simp only [vat, List.getD_eq_getElem?_getD, List.getElem?_set]
  by_cases e : i = j
  · subst e; simp [h]
  · simp [e]
theorem lat_set {vs : List (List Nat)} {i j : Nat} {x : List Nat} (h : i < vs.length) : lat (vs.set i x) j = if i = j then x else lat vs j := by
  simp only [lat, List.getD_eq_getElem?_getD, List.getElem?_set]
  by_cases e : i = j
  · subst e; simp [h]
  · simp [e]
structure Tb (h : Nat → Option AObj) (T : Nat) (vs : List AV) (L : List (List Nat)) (lo hi : Nat) : Prop where
  o : h T = some (.cells vs)
  l : vs.length = L.length
  e : ∀ i, i < L.length → Nl h (vat vs i) ((lat L i).map natV) lo hi
  dj : ∀ i j, i < L.length → j < L.length → i ≠ j → ∀ y, objId (vat vs i) = some y → objId (vat vs j) ≠ some y
  t : T < lo
section
variable {h : Nat → Option AObj} {T : Nat} {vs : List AV} {L : List (List Nat)} {lo hi : Nat}
theorem Tb.ld (B : Tb h T vs L lo hi) {i : Nat} (hi : i < L.length) (nx : Nat) : loadA false 1 ⟨h, nx⟩ (.ptr T i L.length) = some (vat vs i) := by
  have hv : i < vs.length := by rw [B.l]; exact hi
  rw [loadA_ptr]
  show loadO false 1 i L.length (h T) = _
  rw [B.o, loadO_cells]
  simp [B.l, vat, hv, hi, List.getD_eq_getElem?_getD]
theorem Tb.fr {h' : Nat → Option AObj} {hi' : Nat} (B : Tb h T vs L lo hi) (e : ∀ y, y < hi → h' y = h y) (l : hi ≤ hi') (hl : lo ≤ hi) : Tb h' T vs L lo hi' :=
  ⟨by rw [e T (by have := B.t; omega), B.o], B.l, fun i hi => (B.e i hi).fr (fun y y1 y2 _ => e y y2) l, B.dj, B.t⟩
theorem Tb.push (B : Tb h T vs L lo hi) {nx : Nat} (hh : hi ≤ nx) (hl : lo ≤ hi) {i : Nat} (hiL : i < L.length) (hr : (lat L i).length ≤ 1000) (x : Nat) :
    ∃ v' h' nx', appT 1 8 ⟨h, nx⟩ (vat vs i) (some (1, [natV x])) = some (v', ⟨h', nx'⟩) ∧ (∀ n2, stA false 1 ⟨h', n2⟩ (.ptr T i L.length) v' = some (.tup [], ⟨upd h' T (some (.cells (vs.set i v'))), n2⟩)) ∧ Tb (upd h' T (some (.cells (vs.set i v')))) T (vs.set i v') (L.set i (lat L i ++ [x])) lo (nx + 1) ∧ (∀ y, y < lo → y ≠ T → (upd h' T (some (.cells (vs.set i v')))) y = h y) := by
  have hv : i < vs.length := by rw [B.l]; exact hiL
  have hT := B.t
  obtain ⟨v', h', nx', g1, g2, g3, g4, g5, g6, g7⟩ := (B.e i hiL).app (nx := nx) (by' := 8) hh (by omega) (by simp; omega) (natV x)
  have hid : ∀ y, objId v' = some y → lo ≤ y := fun y e => by
    rcases g5 y e with q | q
    · exact ((B.e i hiL).oid q).1
    · omega
  have hT' : h' T = some (.cells vs) := by rw [g6 T (fun e => by have := hid T e; omega), B.o]
  refine ⟨v', h', nx', g1, fun n2 => ?_, ⟨by simp, by simp [B.l], fun j hj => ?_, fun j j' hj hj' hne y => ?_, hT⟩, fun y y1 y2 => by rw [updNe y2, g6 y (fun e => by have := hid y e; omega)]⟩
  · rw [stA_ptr]
    show stO false 1 ⟨h', n2⟩ T i L.length v' (h' T) = _
    rw [hT', stO_cells0]
    simp [B.l, hiL, (show v'.one = true from g2.one), Mem.set]
  · have hj : j < L.length := by simpa using hj
    rw [vat_set hv, lat_set hiL]
    by_cases q : i = j
    · rw [if_pos q, if_pos q, List.map_append]
      exact g2.fr (fun y y1 y2 _ => updNe (by omega)) g4
    · rw [if_neg q, if_neg q]
      exact (B.e j hj).fr (fun y y1 y2 ye => by
        rw [updNe (by omega), g6 y (fun e => by
          rcases g5 y e with w | w
          · exact B.dj i j hiL hj q y w ye
          · omega)]) (by omega)
  · have hj : j < L.length := by simpa using hj
    have hj' : j' < L.length := by simpa using hj'
    rw [vat_set hv, vat_set hv]
    by_cases q : i = j
    · rw [if_pos q, if_neg (by omega)]
      intro e e'
      rcases g5 y e with w | w
      · exact B.dj i j' hiL hj' (by omega) y w e'
      · have := (B.e j' hj').oid e'; omega
    · rw [if_neg q]
      by_cases q' : i = j'
      · rw [if_pos q']
        intro e e'
        rcases g5 y e' with w | w
        · exact B.dj i j hiL hj q y w e
        · have := (B.e j hj).oid e; omega
      · rw [if_neg q']; exact B.dj j j' hj hj' hne y
end
def stA1 (rows : List (List Int)) (S : SM) (lf rt : Bool) (i a : Nat) : List Nat := (if lf = true then [numM rows S (ltr a ++ wrd S i)] else []) ++ (if rt = true then [numM rows S (wrd S i ++ ltr a)] else [])
def stAc (rows : List (List Int)) (S : SM) (lf rt : Bool) (i c a : Nat) : List Nat := (List.range' a c).flatMap (stA1 rows S lf rt i)
theorem stAc_succ (rows : List (List Int)) (S : SM) (lf rt : Bool) (i c a : Nat) : stAc rows S lf rt i (c + 1) a = stA1 rows S lf rt i a ++ stAc rows S lf rt i c (a + 1) := by rw [stAc, List.range'_succ, List.flatMap_cons, stAc]
theorem stAc_all (rows : List (List Int)) (S : SM) (k : Nat) (lf rt : Bool) (i : Nat) : stAc rows S lf rt i k 0 = stpM rows S k lf rt i := by rw [stAc, stpM, List.range_eq_range']; rfl
noncomputable def KB0 : List Item := .code brand_monoid_below.r15 :: .code brand_monoid_below.r16 :: .code brand_monoid_below.k4 :: .code brand_monoid_below.r32 :: .code .ret :: []
noncomputable def KB2 : List Item := .inBlock 1 :: .code brand_monoid_below.r14 :: .inLoop brand_monoid_below.l0 :: .inBlock 0 :: KB0
theorem lset_set (L : List (List Nat)) (i : Nat) (a b : List Nat) : (L.set i a).set i b = L.set i b := by simp
theorem bl_in {nv gv : AV} {ps : List AV} {rows : List (List Int)} {good : List Bool} {k : Nat} (hn : IsRows nv ps rows) (hg : IsB gv good) (v : VB rows good k) {S : SM} (W : MW rows k S) {lf rt : Bool} {T lo i : Nat} (hi : i < S.1.length) {r : Option Res} :
    ∀ (c a : Nat) (h : Nat → Option AObj) (nx0 : Nat) (vs : List AV) (L : List (List Nat)), a + c = k → Tb h T vs L lo nx0 → lo ≤ nx0 → L.length = S.1.length → (lat L i).length ≤ 2 * a →
    (∀ h' nx' vs', Tb h' T vs' (L.set i (lat L i ++ stAc rows S lf rt i c a)) lo nx' → lo ≤ nx' →
      brand_monoid_below.L0 (monV nv gv S) (.bool lf) (.bool rt) (.int .i64 S.1.length) (.sl T 1 0 S.1.length S.1.length) (wdsV S) (.int .i64 S.2.length) (.int .i64 ((i : Int) + 1)) ⟨h', nx'⟩ KB0 = r) →
    brand_monoid_below.L2 (monV nv gv S) (.bool lf) (.bool rt) (.int .i64 S.1.length) (.sl T 1 0 S.1.length S.1.length) (.int .i64 i) (.str (wrd S i)) (wdsV S) (.int .i64 S.2.length) (.int .i64 i) (.int .i64 k) (.int .i64 a) ⟨h, nx0⟩ KB2 = r := by
  intro c
  have n6 := v.n6
  have k3 := v.k3
  have hle := W.ok.le
  obtain ⟨w1, w2, w3, w4⟩ := W.wok hi
  induction c with
  | zero =>
    intro a h nx0 vs L h1 B hlo hL hli hk
    have e : a = k := by omega
    subst e
    have hwi : IntKind.wrap .i64 ((i : Int) + 1) = (i : Int) + 1 := wrap_id (by omega) (by omega)
    have e0 : L.set i (lat L i ++ stAc rows S lf rt i 0 a) = L := by
      have : i < L.length := by omega
      simp [stAc, lat, this, List.getD_eq_getElem?_getD]
    rw [e0] at hk
    have hk := hk h nx0 vs B hlo
    rw [brand_monoid_below.L2_eq]
    simp [KB2, hwi]
    exact hk
  | succ c ih =>
    intro a h nx0 vs L h1 B hlo hL hli hk
    have ha : a < k := by omega
    have hwa : IntKind.wrap .i64 ((a : Int) + 1) = (a : Int) + 1 := wrap_id (by omega) (by omega)
    have hlt := fun m => letter_spec (a := a) (by omega) m
    have ho := okW_ltr ha k3
    have hla : (ltr a).length = 1 := rfl
    have hiL : i < L.length := by omega
    have n1 := fun m => number_spec hn hg v W (w := ltr a ++ wrd S i) (okW_app ho w2) (by simp; omega) m
    have n2 := fun m => number_spec hn hg v W (w := wrd S i ++ ltr a) (okW_app w2 ho) (by simp; omega) m
    have hmc : (monV nv gv S).closed = true := rfl
    have l1 := fun n' => B.ld hiL n'
    rw [hL] at l1
    have hl1 : (ltr a).length + (wrd S i).length ≤ 4611686018427387904 := by omega
    have hl2 : (wrd S i).length + (ltr a).length ≤ 4611686018427387904 := by omega
    rw [stAc_succ] at hk
    cases lf with
    | false =>
      cases rt with
      | false =>
        have st := ih (a + 1) h nx0 vs L (by omega) B hlo hL (by omega) hk
        simp only [Int.natCast_add, Int.cast_ofNat_Int] at st
        rw [brand_monoid_below.L2_eq]
        simp [ha, hwa]
        exact st
      | true =>
        obtain ⟨v', h', nx', g1, g2, g3, g4⟩ := B.push (nx := nx0 + 13) (by omega) hlo hiL (by omega) (numM rows S (wrd S i ++ ltr a))
        have st := ih (a + 1) _ (nx0 + 16) _ _ (by omega) (g3.fr (hi' := nx0 + 16) (fun _ _ => rfl) (by omega) (by omega)) (by omega) (by simp [hL]) (by rw [lat_set hiL]; simp; omega) (fun h2 nx2 vs2 f1 f2 => hk h2 nx2 vs2 (by
          rw [lat_set hiL, if_pos rfl, lset_set, List.append_assoc] at f1
          simpa [stA1] using f1) f2)
        simp only [Int.natCast_add, Int.cast_ofNat_Int] at st
        rw [hL] at g2
        simp only [natV] at g1
        have v1 : v'.one = true := by have := g3.e i (by simpa using hiL); rw [vat_set (by rw [B.l]; exact hiL), if_pos rfl] at this; exact this.one
        have vo := (B.e i hiL).one
        rw [brand_monoid_below.L2_eq]
        simp [ha, hi, l1, hlt, hl2, hmc, n2, vo, g1, v1, g2, hwa, -stA_ptr]
        exact st
    | true =>
      cases rt with
      | false =>
        obtain ⟨v', h', nx', g1, g2, g3, g4⟩ := B.push (nx := nx0 + 13) (by omega) hlo hiL (by omega) (numM rows S (ltr a ++ wrd S i))
        have st := ih (a + 1) _ (nx0 + 16) _ _ (by omega) (g3.fr (hi' := nx0 + 16) (fun _ _ => rfl) (by omega) (by omega)) (by omega) (by simp [hL]) (by rw [lat_set hiL]; simp; omega) (fun h2 nx2 vs2 f1 f2 => hk h2 nx2 vs2 (by
          rw [lat_set hiL, if_pos rfl, lset_set, List.append_assoc] at f1
          simpa [stA1] using f1) f2)
        simp only [Int.natCast_add, Int.cast_ofNat_Int] at st
        rw [hL] at g2
        simp only [natV] at g1
        have v1 : v'.one = true := by have := g3.e i (by simpa using hiL); rw [vat_set (by rw [B.l]; exact hiL), if_pos rfl] at this; exact this.one
        have vo := (B.e i hiL).one
        rw [brand_monoid_below.L2_eq]
        simp [ha, hi, l1, hlt, hl1, hmc, n1, vo, g1, v1, g2, hwa, -stA_ptr]
        exact st
      | true =>
        obtain ⟨v', h', nx', g1, g2, g3, g4⟩ := B.push (nx := nx0 + 13) (by omega) hlo hiL (by omega) (numM rows S (ltr a ++ wrd S i))
        have B3 := g3.fr (hi' := nx0 + 16) (fun _ _ => rfl) (by omega) (by omega)
        have hiL2 : i < (L.set i (lat L i ++ [numM rows S (ltr a ++ wrd S i)])).length := by simpa using hiL
        have l3 := fun n' => B3.ld hiL2 n'
        obtain ⟨v2, h2, nx2, u1, u2, u3, u4⟩ := B3.push (nx := nx0 + 16 + 13) (by omega) (by omega) hiL2 (by rw [lat_set hiL, if_pos rfl]; simp; omega) (numM rows S (wrd S i ++ ltr a))
        have st := ih (a + 1) _ (nx0 + 16 + 16) _ _ (by omega) (u3.fr (hi' := nx0 + 16 + 16) (fun _ _ => rfl) (by omega) (by omega)) (by omega) (by simp [hL]) (by rw [lat_set hiL2, lat_set hiL]; simp; omega) (fun h2 nx2 vs2 f1 f2 => hk h2 nx2 vs2 (by
          rw [lat_set hiL2, if_pos rfl, lat_set hiL, if_pos rfl, lset_set, lset_set, List.append_assoc, List.append_assoc] at f1
          simpa [stA1] using f1) f2)
        simp only [Int.natCast_add, Int.cast_ofNat_Int] at st
        rw [hL] at g2
        simp only [List.length_set, hL] at u2 l3
        simp only [natV] at g1 u1
        have v1 : v'.one = true := by have := g3.e i (by simpa using hiL); rw [vat_set (by rw [B.l]; exact hiL), if_pos rfl] at this; exact this.one
        have e2 : vat (vs.set i v') i = v' := by rw [vat_set (by rw [B.l]; exact hiL), if_pos rfl]
        rw [e2] at l3 u1
        have v3 : v2.one = true := by have := u3.e i (by simpa using hiL); rw [vat_set (by rw [B3.l]; exact hiL2), if_pos rfl] at this; exact this.one
        have vo := (B.e i hiL).one
        simp only [List.set_set] at u2 st
        rw [brand_monoid_below.L2_eq]
        simp [ha, hi, l1, hlt, hl1, hl2, hmc, n1, n2, vo, g1, v1, g2, l3, u1, v3, u2, hwa, -stA_ptr]
        exact st
end Go.Proofs.Ythnpflkpjimkfaa

/-
  BELOW: the program's searches, and what it returns. Conditions: none.
-/
namespace Go.Proofs.Ythnpflkpjimkfaa
open Go.AM
open Go.Proofs.Try (prog)
set_option linter.all false
set_option maxRecDepth 100000
set_option maxHeartbeats 8000000
theorem bl_out {nv gv : AV} {ps : List AV} {rows : List (List Int)} {good : List Bool} {k : Nat} (hn : IsRows nv ps rows) (hg : IsB gv good) (v : VB rows good k) {S : SM} (W : MW rows k S) {lf rt : Bool} {T lo : Nat} {r : Option Res} :
    ∀ (c i : Nat) (h : Nat → Option AObj) (nx0 : Nat) (vs : List AV) (L : List (List Nat)), i + c = S.1.length → Tb h T vs L lo nx0 → lo ≤ nx0 → L.length = S.1.length → (∀ j, j < i → lat L j = stpM rows S k lf rt j) → (∀ j, i ≤ j → lat L j = []) →
    (∀ h' nx' vs' L', Tb h' T vs' L' lo nx' → lo ≤ nx' → L'.length = S.1.length → (∀ j, j < S.1.length → lat L' j = stpM rows S k lf rt j) →
      brand_monoid_below.L0 (monV nv gv S) (.bool lf) (.bool rt) (.int .i64 S.1.length) (.sl T 1 0 S.1.length S.1.length) (wdsV S) (.int .i64 S.2.length) (.int .i64 S.1.length) ⟨h', nx'⟩ KB0 = r) →
    brand_monoid_below.L0 (monV nv gv S) (.bool lf) (.bool rt) (.int .i64 S.1.length) (.sl T 1 0 S.1.length S.1.length) (wdsV S) (.int .i64 S.2.length) (.int .i64 i) ⟨h, nx0⟩ KB0 = r := by
  intro c
  have hlen := W.ok.len
  induction c with
  | zero =>
    intro i h nx0 vs L h1 B hlo hL hd hz hk
    have e : i = S.1.length := by omega
    subst e
    exact hk h nx0 vs L B hlo hL hd
  | succ c ih =>
    intro i h nx0 vs L h1 B hlo hL hd hz hk
    have hi : i < S.1.length := by omega
    have hi2 : i < S.2.length := by omega
    obtain ⟨w1, w2, w3, w4⟩ := W.wok hi
    have r0 := v.rl 0 v.n1
    have i0 := hn.idx (i := 0) v.n1 .i64
    have j0 := hn.head (i := 0) v.n1
    have iw0 := hn.row 0 v.n1
    simp only [Int.ofNat_zero, Int.cast_ofNat_Int, List.drop_zero] at i0 j0
    have hdw : ((S.2.map AV.str).drop i).head? = some (.str (wrd S i)) := by rw [List.head?_drop, List.getElem?_map, w1]; rfl
    have st := bl_in (T := T) (lo := lo) (lf := lf) (rt := rt) (r := r) hn hg v W hi k 0 h nx0 vs L (by omega) B hlo hL (by rw [hz i (Nat.le_refl _)]; simp) (fun h' nx' vs' B' hlo' => by
      rw [hz i (Nat.le_refl _), List.nil_append, stAc_all] at B'
      have := ih (i + 1) h' nx' vs' _ (by omega) B' hlo' (by simp [hL]) (fun j hj => by
        rw [lat_set (by omega)]
        by_cases q : i = j
        · rw [if_pos q, q]
        · rw [if_neg q]; exact hd j (by omega)) (fun j hj => by rw [lat_set (by omega), if_neg (by omega)]; exact hz j (by omega)) hk
      simp only [Int.natCast_add, Int.cast_ofNat_Int] at this
      exact this)
    simp only [Int.ofNat_zero, Int.cast_ofNat_Int] at st
    have hmon : ∀ x, (monV nv gv S) = x → x = .fptr [nv, gv, wdsV S, .fmap (S.1.map encM) ((List.range S.1.length).map natV)] := fun x e => by rw [← e]; rfl
    rw [brand_monoid_below.L0_eq]
    simp only [wdsV, monV] at st ⊢
    simp [hi2, hdw, i0, j0, iw0.len, r0, -List.head?_drop, -List.map_drop]
    exact st
structure Bs (h : Nat → Option AObj) (nx : Nat) (T d : Nat) (vs : List AV) (L : List (List Nat)) (lo hiT : Nat) (ids : List Nat) (Dp : MB) (n e : Nat) (q : AV) (iq : Nat) (P : VP) : Prop where
  tb : Tb h T vs L lo hiT
  bt : Bt h d ids (Dp ++ [P.1]) n e
  q : Gl ⟨h, nx⟩ q iq 1 P.2.length (P.2.map natV)
  lt : lo ≤ hiT ∧ hiT ≤ d ∧ (∀ y ∈ ids, hiT ≤ y ∧ y < nx) ∧ hiT ≤ iq ∧ iq ≠ d ∧ iq ∉ ids ∧ d < nx
  s : cf P.1 + P.2.length ≤ 500
noncomputable def KB4 : List Item := [.code brand_monoid_below.r32, .code .ret]
noncomputable def KB6 : List Item := .inBlock 5 :: .code brand_monoid_below.r31 :: .inLoop brand_monoid_below.l4 :: .inBlock 4 :: KB4
noncomputable def KB8 : List Item := .inBlock 7 :: .code brand_monoid_below.r23 :: .inLoop brand_monoid_below.l6 :: .inBlock 6 :: KB6
theorem bl_v {T d : Nat} {vs : List AV} {L : List (List Nat)} {lo hiT : Nat} {ids : List Nat} {Dp : MB} {n e : Nat} (hn400 : n ≤ 400) (hDe : Dp.length + 1 + e = n) (hLn : L.length = n) (hLs : ∀ j k, k ∈ lat L j → k < n) {x : Nat} (hx : x < n) {r : Option Res} :
    ∀ (c p : Nat) (h : Nat → Option AObj) (nx0 : Nat) (q : AV) (iq : Nat) (P : VP), p + c = (lat L x).length → (lat L x).length ≤ 1000 → Bs h nx0 T d vs L lo hiT ids Dp n e q iq P → 0 < P.2.length →
    (∀ h' nx' q' iq', Bs h' nx' T d vs L lo hiT ids Dp n e q' iq' (visF ((lat L x).drop p) P) → (∀ y, y < hiT → h' y = h y) → nx0 ≤ nx' →
      brand_monoid_below.L6 (.int .i64 n) (.sl T 1 0 n n) (.sl d 1 0 n n) (.int .i64 Dp.length) (tlV q' 1) (.int .i64 n) (.int .i64 Dp.length) ⟨h', nx'⟩ KB6 = r) →
    brand_monoid_below.L8 (.int .i64 n) (.sl T 1 0 n n) (.sl d 1 0 n n) (.int .i64 Dp.length) q (.int .i64 n) (.int .i64 Dp.length) (vat vs x) (.int .i64 (lat L x).length) (.int .i64 p) ⟨h, nx0⟩ KB8 = r := by
  intro c
  induction c with
  | zero =>
    intro p h nx0 q iq P h1 hll B hP hk
    have ep : p = (lat L x).length := by omega
    subst ep
    have hk := hk h nx0 q iq (by rw [List.drop_of_length_le (Nat.le_refl _)]; exact B) (fun _ _ => rfl) (Nat.le_refl _)
    rw [brand_monoid_below.L8_eq]
    simp [KB8, B.q.cut hP]
    exact hk
  | succ c ih =>
    intro p h nx0 q iq P h1 hll B hP hk
    have hp : p < (lat L x).length := by omega
    have hwp : IntKind.wrap .i64 ((p : Int) + 1) = (p : Int) + 1 := wrap_id (by omega) (by omega)
    have hd := List.drop_eq_getElem_cons hp
    have hj := hLs x _ (List.getElem_mem hp)
    have hjx : (lat L x)[p]? = some (lat L x)[p] := List.getElem?_eq_getElem hp
    generalize (lat L x)[p] = j at hd hj hjx
    have hxe := (List.getElem?_eq_some_iff.1 hjx).2
    have N := B.tb.e x (by omega)
    obtain ⟨R', e1, e2, e3, e4⟩ := N.sl (N.nn (by intro e; have := congrArg List.length e; simp at this; rw [this] at hp; simp at hp))
    have hcell : ((lat L x).map natV)[p]? = some (.int .i64 (j : Int)) := by simp [hjx, natV]
    simp only [List.length_map] at e1
    have hid : Dp.length < (Dp ++ [P.1]).length := by simp
    have l1 := fun n' => B.bt.ld hid n'
    have hsum : (Dp ++ [P.1]).length + e = n := by simp; omega
    rw [hsum] at l1
    have l2 := fun n' => B.bt.get hid hj n'
    have hm : mth (Dp ++ [P.1]) Dp.length j = bnth P.1 j := by simp [mth, brw, List.getD_eq_getElem?_getD]
    rw [hm] at l2
    have hDn : Dp.length < n := by omega
    have hrl : P.1.length = n := by
      have := B.bt.rl Dp.length hid
      simpa [brw, List.getD_eq_getElem?_getD] using this
    rw [hd, visF, List.foldl_cons] at hk
    cases qq : bnth P.1 j with
    | true =>
      rw [qq] at l2
      have ev : vis1 P j = P := by rw [vis1, if_pos qq]
      rw [ev] at hk
      have st := ih (p + 1) h nx0 q iq P (by omega) hll B hP hk
      simp only [Int.natCast_add, Int.cast_ofNat_Int] at st
      rw [e1] at st ⊢
      rw [brand_monoid_below.L8_eq]
      simp [hp, e2, hxe, natV, hDn, hj, l1, l2, hwp, -stA_ptr]
      exact st
    | false =>
      rw [qq] at l2
      have ev : vis1 P j = (P.1.set j true, P.2 ++ [j]) := by rw [vis1, if_neg (by rw [qq]; simp)]
      rw [ev] at hk
      obtain ⟨p1, p2⟩ := B.bt.put hid hj true nx0
      rw [setM_app] at p2
      have hrm := B.bt.rm hid
      obtain ⟨o1, o2, o3, o4, o5, o6, o7⟩ := B.lt
      have hRlt := o3 _ hrm
      generalize hrr : rid ids Dp.length = rr at *
      generalize hrow : (brw (Dp ++ [P.1]) Dp.length).set j true = row' at *
      have hfr : ∀ y, y < hiT → upd h rr (some (.cells (bls row'))) y = h y := fun y hy => updNe (by omega)
      have hq2 : Gl ⟨upd h rr (some (.cells (bls row'))), nx0⟩ q iq 1 P.2.length (P.2.map natV) := B.q.fr (updNe (fun e => o6 (e ▸ hrm))) (by have := B.q.lt; exact this)
      obtain ⟨q', m3, iq', g1, g2, g3, g4, g5⟩ := hq2.app (by' := 8) (ys := [natV j]) rfl (by have := B.s; simp; omega)
      obtain ⟨h3, n3⟩ := m3
      simp only at g3 g4 g5
      have hqlt := B.q.lt
      simp only at hqlt
      have hiq' : hiT ≤ iq' ∧ iq' ≠ d ∧ iq' ∉ ids := by
        rcases g4 with e | e
        · rw [e]; exact ⟨o4, o5, o6⟩
        · rw [e]; exact ⟨by omega, by omega, fun w => by have := o3 _ w; omega⟩
      have low : ∀ y, y < hiT → h3 y = h y := fun y hy => by rw [g5 y (by omega) (by omega), hfr y hy]
      have hcf := cf_set (row := P.1) (j := j) (by omega) qq
      have B2 : Bs h3 n3 T d vs L lo hiT ids Dp n e q' iq' (P.1.set j true, P.2 ++ [j]) := by
        refine ⟨B.tb.fr (fun y hy => low y hy) (Nat.le_refl _) o1, ?_, ?_, ⟨o1, o2, fun y hy => ⟨(o3 y hy).1, by have := (o3 y hy).2; omega⟩, hiq'.1, hiq'.2.1, hiq'.2.2, by omega⟩, ?_⟩
        · exact p2.fr (g5 d (by omega) (Ne.symm o5)) (fun y hy => g5 y (o3 y hy).2 (fun e => o6 (e ▸ hy)))
        · show Gl ⟨h3, n3⟩ q' iq' 1 ((P.2 ++ [j]).length) ((P.2 ++ [j]).map natV)
          rw [List.map_append, List.length_append]
          exact g2
        · have := B.s
          show cf (P.1.set j true) + (P.2 ++ [j]).length ≤ 500
          simp only [List.length_append, List.length_singleton]; omega
      have st := ih (p + 1) h3 n3 q' iq' _ (by omega) hll B2 (by simp) (fun h' nx' q'' iq'' f1 f2 f3 => hk h' nx' q'' iq'' f1 (fun y hy => by rw [f2 y hy, low y hy]) (by omega))
      simp only [Int.natCast_add, Int.cast_ofNat_Int] at st
      simp only [natV] at g1
      rw [e1] at st ⊢
      rw [brand_monoid_below.L8_eq]
      simp [hp, e2, hxe, natV, hDn, hj, l1, l2, p1, B.q.one, g1, hwp, -stA_ptr]
      exact st
theorem bl_w {T d : Nat} {vs : List AV} {L : List (List Nat)} {lo hiT : Nat} {ids : List Nat} {Dp : MB} {n e : Nat} (hn400 : n ≤ 400) (hDe : Dp.length + 1 + e = n) (hLn : L.length = n) (hLs : ∀ j k, k ∈ lat L j → k < n) (hLl : ∀ j, (lat L j).length ≤ 1000) {r : Option Res} :
    ∀ (f : Nat) (h : Nat → Option AObj) (nx0 : Nat) (q : AV) (iq : Nat) (P : VP), Bs h nx0 T d vs L lo hiT ids Dp n e q iq P → VI n (lat L) Dp.length P → cf P.1 + P.2.length < f →
    (∀ h' nx', Tb h' T vs L lo hiT → Bt h' d ids (Dp ++ [vis (lat L) f P]) n e → (∀ y ∈ ids, hiT ≤ y ∧ y < nx') → d < nx' → nx0 ≤ nx' →
      brand_monoid_below.L4 (.int .i64 n) (.sl T 1 0 n n) (.sl d 1 0 n n) (.int .i64 n) (.int .i64 ((Dp.length : Int) + 1)) ⟨h', nx'⟩ KB4 = r) →
    brand_monoid_below.L6 (.int .i64 n) (.sl T 1 0 n n) (.sl d 1 0 n n) (.int .i64 Dp.length) q (.int .i64 n) (.int .i64 Dp.length) ⟨h, nx0⟩ KB6 = r := by
  intro f
  induction f with
  | zero => intro h nx0 q iq P B I hf; omega
  | succ f ih =>
    intro h nx0 q iq P B I hf hk
    obtain ⟨o1, o2, o3, o4, o5, o6, o7⟩ := B.lt
    have hDn : Dp.length < n := by omega
    rw [vis] at hk
    cases eP : P.2 with
    | nil =>
      rw [eP] at hk
      have hwi : IntKind.wrap .i64 ((Dp.length : Int) + 1) = (Dp.length : Int) + 1 := wrap_id (by omega) (by omega)
      have hl := B.q.len
      rw [eP] at hl
      have hk := hk h nx0 B.tb B.bt o3 o7 (Nat.le_refl _)
      rw [brand_monoid_below.L6_eq]
      simp [hl, KB6, hwi]
      exact hk
    | cons x t =>
      rw [eP] at hk
      simp only [] at hk
      have hh : P.2.head? = some x := by rw [eP]; rfl
      have hx := I.t x (by rw [eP]; simp)
      have hpos : 0 < P.2.length := by rw [eP]; simp
      obtain ⟨g1, g2, g3, g4, g5⟩ := visF_inv (fun j k hk => hLs j k hk) (I.r x hx.1 hx.2) (lat L x) P (fun k hk => hk) I hh
      have hlq := B.q.len
      have hi0 := B.q.idx0 hpos .i64
      have ld := B.q.load1 hpos
      have e0 : (P.2.map natV)[0]? = some (.int .i64 (x : Int)) := by rw [eP]; rfl
      rw [e0] at ld
      have l1 := fun n' => B.tb.ld (i := x) (by omega) n'
      rw [hLn] at l1
      have lN := (B.tb.e x (by omega)).len
      simp only [List.length_map] at lN
      have st := bl_v (T := T) (d := d) (vs := vs) (L := L) (lo := lo) (hiT := hiT) (ids := ids) (Dp := Dp) (e := e) hn400 hDe hLn hLs hx.1 (r := r) (lat L x).length 0 h nx0 q iq P (by omega) (hLl x) B hpos (fun h' nx' q' iq' B' hfr hnx' => by
        rw [List.drop_zero] at B'
        generalize visF (lat L x) P = Q at *
        have hQ : Q.2.head? = some x := g2
        obtain ⟨Q1, Q2⟩ := Q
        cases Q2 with
        | nil => simp at hQ
        | cons y Q2 =>
          simp at hQ
          subst hQ
          have ht := B'.q.tail (by simp)
          have hcs := B'.s
          refine ih h' nx' (tlV q' 1) iq' (Q1, Q2) ⟨B'.tb, B'.bt, by simpa using ht, B'.lt, by simp only [List.length_cons] at hcs; show cf Q1 + Q2.length ≤ 500; omega⟩ ⟨g1.l, g1.m, g1.r, fun j hj => g1.t j (by simp [hj]), fun j hj ej => ?_⟩ (by simp only [List.length_cons] at g5; show cf Q1 + Q2.length < f; omega) (fun h2 nx2 f1 f2 f3 f4 f5 => hk h2 nx2 f1 (by simpa using f2) f3 f4 (by omega))
          by_cases w : j = y
          · subst w; right; exact g4
          · rcases g1.c j hj ej with h1 | h1
            · left
              simp at h1
              rcases h1 with h1 | h1
              · exact absurd h1 w
              · exact h1
            · right; exact h1)
      simp only [Int.ofNat_zero, Int.cast_ofNat_Int] at st
      rw [brand_monoid_below.L6_eq]
      simp [hlq, hpos, hi0, ld, hx.1, l1, lN]
      exact st
def rowB (stp : Nat → List Nat) (n i : Nat) : List Bool := vis stp (n + 2) ((List.replicate n false).set i true, [i])
theorem VI0 {n i : Nat} (stp : Nat → List Nat) (hi : i < n) : VI n stp i ((List.replicate n false).set i true, [i]) ∧ cf ((List.replicate n false).set i true) + [i].length < n + 2 := by
  have hb : ∀ j, bnth ((List.replicate n false).set i true) j = if i = j then true else false := fun j => by
    rw [bnth_set (by simpa using hi)]
    by_cases e : i = j
    · rw [if_pos e, if_pos e]
    · rw [if_neg e, if_neg e]
      simp only [bnth, List.getD_eq_getElem?_getD]
      by_cases q : j < n
      · simp [q]
      · simp [show n ≤ j by omega]
  refine ⟨⟨by simp, by rw [hb, if_pos rfl], fun j _ e => ?_, fun j hj => ?_, fun j _ e => ?_⟩, ?_⟩
  · rw [hb] at e
    by_cases w : i = j
    · subst w; exact .refl
    · rw [if_neg w] at e; cases e
  · simp at hj; subst hj; exact ⟨hi, by rw [hb, if_pos rfl]⟩
  · rw [hb] at e
    by_cases w : i = j
    · left; simp [w]
    · rw [if_neg w] at e; cases e
  · have : cf ((List.replicate n false).set i true) ≤ n := by
      have := List.countP_le_length (p := fun b => !b) (l := (List.replicate n false).set i true)
      simpa [cf] using this
    simp only [List.length_singleton]; omega
theorem vis_congr {stp stp' : Nat → List Nat} {n i : Nat} (hs : ∀ j, ∀ k ∈ stp j, k < n) (he : ∀ j, j < n → stp j = stp' j) : ∀ (f : Nat) (P : VP), VI n stp i P → vis stp f P = vis stp' f P
  | 0, P, _ => rfl
  | f + 1, P, h => by
    rw [vis, vis]
    cases e : P.2 with
    | nil => rfl
    | cons x t =>
      simp only []
      have hx := h.t x (by rw [e]; simp)
      rw [← he x hx.1]
      have hh : P.2.head? = some x := by rw [e]; rfl
      obtain ⟨g1, g2, g3, g4, g5⟩ := visF_inv hs (h.r x hx.1 hx.2) (stp x) P (fun k hk => hk) h hh
      generalize visF (stp x) P = Q at *
      obtain ⟨Q1, Q2⟩ := Q
      cases Q2 with
      | nil => simp at g2
      | cons y Q2 =>
        simp at g2
        subst g2
        exact vis_congr hs he f (Q1, (y :: Q2).drop 1) ⟨g1.l, g1.m, g1.r, fun j hj => g1.t j (by simp at hj; simp [hj]), fun j hj ej => by
          by_cases w : j = y
          · subst w; right; exact g4
          · rcases g1.c j hj ej with h1 | h1
            · left
              simp at h1 ⊢
              rcases h1 with h1 | h1
              · exact absurd h1 w
              · exact h1
            · right; exact h1⟩
end Go.Proofs.Ythnpflkpjimkfaa

/-
  BELOW: what the program returns. Conditions: none.
-/
namespace Go.Proofs.Ythnpflkpjimkfaa
open Go.AM
open Go.Proofs.Try (prog)
set_option linter.all false
set_option maxRecDepth 100000
set_option maxHeartbeats 8000000
theorem bl_rows {T d : Nat} {vs : List AV} {L : List (List Nat)} {lo hiT : Nat} {n : Nat} (hn400 : n ≤ 400) (hLn : L.length = n) (hLs : ∀ j k, k ∈ lat L j → k < n) (hLl : ∀ j, (lat L j).length ≤ 1000) (hlo : lo ≤ hiT) (hd : hiT ≤ d) :
    ∀ (c i : Nat) (h : Nat → Option AObj) (nx0 : Nat) (ids : List Nat), i + c = n → Tb h T vs L lo hiT → Bt h d ids ((List.range i).map (rowB (lat L) n)) n c → (∀ y ∈ ids, hiT ≤ y ∧ y < nx0) → d < nx0 →
    brand_monoid_below.L4 (.int .i64 n) (.sl T 1 0 n n) (.sl d 1 0 n n) (.int .i64 n) (.int .i64 i) ⟨h, nx0⟩ KB4 = some (mbV n ((List.range n).map (rowB (lat L) n)), Mem.empty) := by
  intro c
  induction c with
  | zero =>
    intro i h nx0 ids h1 B Bt0 hids hdn
    have e : i = n := by omega
    subst e
    have hdp := Bt0.deep 3
    have hl : ((List.range i).map (rowB (lat L) i)).length = i := by simp
    rw [hl] at hdp
    rw [brand_monoid_below.L4_eq]
    simp [KB4, hdp]
    done
  | succ c ih =>
    intro i h nx0 ids h1 B Bt0 hids hdn
    have hi : i < n := by omega
    have hil : ids.length = i := by rw [Bt0.l]; simp
    have hli : ((List.range i).map (rowB (lat L) n)).length = i := by simp
    have hid := B.t
    have hdd : ∀ v, (upd h nx0 v) d = some (.cells (ids.map (fun r => AV.sl r 1 0 n n) ++ List.replicate (c + 1) AV.nils)) := fun v => by rw [updNe (by omega), Bt0.o]
    have hll : (ids.map (fun r => AV.sl r 1 0 n n) ++ List.replicate (c + 1) AV.nils).length = n := by simp [hil]; omega
    have hst : stA false 1 ⟨upd h nx0 (some (AObj.cells (List.replicate n (AV.bool false)))), nx0 + 1⟩ (.ptr d i n) (.sl nx0 1 0 n n) = some (.tup [], ⟨upd (upd h nx0 (some (AObj.cells (List.replicate n (AV.bool false))))) d (some (.cells ((ids.map (fun r => AV.sl r 1 0 n n) ++ List.replicate (c + 1) AV.nils).set i (.sl nx0 1 0 n n)))), nx0 + 1⟩) := by
      rw [stA_ptr]
      show stO false 1 _ d i n _ ((upd h nx0 (some (AObj.cells (List.replicate n (AV.bool false))))) d) = _
      rw [hdd, stO_cells0, hll]
      simp [hi, AV.one, Mem.set]
    have B2 := Bt0.add (h' := upd (upd h nx0 (some (AObj.cells (List.replicate n (AV.bool false))))) d (some (.cells ((ids.map (fun r => AV.sl r 1 0 n n) ++ List.replicate (c + 1) AV.nils).set i (.sl nx0 1 0 n n))))) (x := nx0) (row := List.replicate n false) (by omega) (fun q => by have := hids _ q; omega) (by simp) (by rw [hli]; simp) (by rw [updNe (by omega)]; simp [bls]) (fun y hy => by
      have := hids y hy
      rw [updNe (fun e => Bt0.nd' (by rw [← e]; exact hy)), updNe (by omega)])
    generalize hh2 : upd (upd h nx0 (some (AObj.cells (List.replicate n (AV.bool false))))) d (some (.cells ((ids.map (fun r => AV.sl r 1 0 n n) ++ List.replicate (c + 1) AV.nils).set i (.sl nx0 1 0 n n)))) = h2 at *
    have low2 : ∀ y, y < hiT → h2 y = h y := fun y hy => by rw [← hh2, updNe (by omega), updNe (by omega)]
    have hidx : i < ((List.range i).map (rowB (lat L) n) ++ [List.replicate n false]).length := by simp
    have l1 := fun n' => B2.ld hidx n'
    have hsum : ((List.range i).map (rowB (lat L) n) ++ [List.replicate n false]).length + c = n := by simp; omega
    rw [hsum] at l1
    obtain ⟨p1, p2⟩ := B2.put hidx hi true (nx0 + 1)
    have hrm := B2.rm hidx
    have sa := setM_app ((List.range i).map (rowB (lat L) n)) (List.replicate n false) i true
    rw [hli] at sa
    rw [sa] at p2
    generalize hrr : rid (ids ++ [nx0]) i = rr at *
    generalize hrow : (brw ((List.range i).map (rowB (lat L) n) ++ [List.replicate n false]) i).set i true = row' at *
    have hrrb : hiT ≤ rr ∧ rr ≤ nx0 := by
      rcases List.mem_append.1 hrm with q | q
      · have := hids _ q; omega
      · simp at q; omega
    have hidsn : ∀ y ∈ ids ++ [nx0], hiT ≤ y ∧ y < nx0 + 2 := fun y hy => by
      rcases List.mem_append.1 hy with hy | hy
      · have := hids y hy; omega
      · simp at hy; omega
    obtain ⟨v0, v1⟩ := VI0 (lat L) hi
    have BS : Bs (upd (upd h2 rr (some (.cells (bls row')))) (nx0 + 1) (some (.cells [.int .i64 i]))) (nx0 + 2) T d vs L lo hiT (ids ++ [nx0]) ((List.range i).map (rowB (lat L) n)) n c (.sl (nx0 + 1) 1 0 1 1) (nx0 + 1) ((List.replicate n false).set i true, [i]) := by
      refine ⟨B.fr (fun y hy => by rw [updNe (by omega), updNe (by omega), low2 y hy]) (Nat.le_refl _) hlo, p2.fr (updNe (by omega)) (fun y hy => updNe (by have := hidsn y hy; rcases List.mem_append.1 hy with hy | hy; have := hids y hy; omega; simp at hy; omega)), ⟨⟨[], rfl, by simp [natV]⟩, rfl, by show nx0 + 1 < nx0 + 2; omega⟩, ⟨hlo, hd, hidsn, by omega, by omega, fun w => by
        rcases List.mem_append.1 w with hy | hy
        · have := hids _ hy; omega
        · simp at hy, by omega⟩, by show cf ((List.replicate n false).set i true) + [i].length ≤ 500; omega⟩
    have st := bl_w hn400 (by simp; omega) hLn hLs hLl (r := some (mbV n ((List.range n).map (rowB (lat L) n)), Mem.empty)) (n + 2) _ (nx0 + 2) _ _ _ BS (by rw [hli]; exact v0) v1 (fun h' nx' f1 f2 f3 f4 f5 => by
      have e1 : ((List.range i).map (rowB (lat L) n)) ++ [vis (lat L) (n + 2) ((List.replicate n false).set i true, [i])] = (List.range (i + 1)).map (rowB (lat L) n) := by rw [List.range_succ, List.map_append]; rfl
      rw [e1] at f2
      have := ih (i + 1) h' nx' (ids ++ [nx0]) (by omega) f1 f2 f3 f4
      simp only [hli]
      simp only [Int.natCast_add, Int.cast_ofNat_Int] at this
      exact this)
    simp only [hli] at st
    rw [brand_monoid_below.L4_eq]
    simp [hi, show n ≤ 4611686018427387904 by omega, show n ≤ 70368744177664 by omega, hst, l1, p1, -stA_ptr]
    exact st
def belM (rows : List (List Int)) (S : SM) (k : Nat) (lf rt : Bool) : MB := (List.range S.1.length).map (rowB (stpM rows S k lf rt) S.1.length)
theorem below_spec {nv gv : AV} {ps : List AV} {rows : List (List Int)} {good : List Bool} {k : Nat} (hn : IsRows nv ps rows) (hg : IsB gv good) (v : VB rows good k) {S : SM} (W : MW rows k S) (lf rt : Bool) (m : Mem) :
    denC prog ann 96 [monV nv gv S, .bool lf, .bool rt] m = some (mbV S.1.length (belM rows S k lf rt), m) := by
  have hle := W.ok.le
  have hlen := W.ok.len
  have hpos := W.pos
  have hlat0 : ∀ i, lat (List.replicate S.1.length ([] : List Nat)) i = [] := fun i => by
    by_cases q : i < S.1.length <;> simp [lat, List.getD_eq_getElem?_getD, q]
  have hvat0 : ∀ i, vat (List.replicate S.1.length AV.nils) i = .nils := fun i => by
    by_cases q : i < S.1.length <;> simp [vat, List.getD_eq_getElem?_getD, q]
  have st := bl_out (T := 0) (lo := 1) (lf := lf) (rt := rt) hn hg v W (r := some (mbV S.1.length (belM rows S k lf rt), Mem.empty)) S.1.length 0 (upd Mem.empty.h 0 (some (.cells (List.replicate S.1.length .nils)))) 1 (List.replicate S.1.length .nils) (List.replicate S.1.length []) (by omega)
    ⟨by simp, by simp, fun i hi => by rw [hlat0, hvat0]; exact .nil, fun i j _ _ _ y e => by rw [hvat0] at e; simp [objId] at e, by omega⟩ (by omega) (by simp) (by omega) (fun j _ => hlat0 j) (fun h' nx' vs' L' B hlo hL hst => by
      have hLs : ∀ j k', k' ∈ lat L' j → k' < S.1.length := fun j k' hk' => by
        by_cases q : j < S.1.length
        · rw [hst j q] at hk'; exact stpM_lt v W q k' hk'
        · have : lat L' j = [] := by simp [lat, List.getD_eq_getElem?_getD, show L'.length ≤ j by omega]
          rw [this] at hk'; simp at hk'
      have hLl : ∀ j, (lat L' j).length ≤ 1000 := fun j => by
        by_cases q : j < S.1.length
        · rw [hst j q, stpM, List.length_flatMap]
          have : ∀ (l : List Nat), (l.map fun a => ((if lf = true then [numM rows S (ltr a ++ wrd S j)] else []) ++ (if rt = true then [numM rows S (wrd S j ++ ltr a)] else [])).length).sum ≤ 2 * l.length := by
            intro l
            induction l with
            | nil => simp
            | cons a l ih =>
              have h2 : ((if lf = true then [numM rows S (ltr a ++ wrd S j)] else []) ++ (if rt = true then [numM rows S (wrd S j ++ ltr a)] else [])).length ≤ 2 := by cases lf <;> cases rt <;> simp
              rw [List.map_cons, List.sum_cons, List.length_cons]; omega
          have := this (List.range k)
          simp only [List.length_range] at this
          have k3 := v.k3
          omega
        · have : lat L' j = [] := by simp [lat, List.getD_eq_getElem?_getD, show L'.length ≤ j by omega]
          rw [this]; simp
      have hrow : (List.range S.1.length).map (rowB (lat L') S.1.length) = belM rows S k lf rt := by
        rw [belM]
        refine List.map_congr_left fun i hi => ?_
        have hi : i < S.1.length := by simpa using hi
        exact vis_congr hLs (fun j hj => hst j hj) _ _ (VI0 (lat L') hi).1
      have st2 := bl_rows (T := 0) (d := nx') (vs := vs') (L := L') (lo := 1) (hiT := nx') hle hL hLs hLl hlo (Nat.le_refl _) S.1.length 0 (upd h' nx' (some (.cells (List.replicate S.1.length .nils)))) (nx' + 1) [] (by omega) (B.fr (fun y hy => updNe (by omega)) (Nat.le_refl _) hlo) ⟨by simp, by simp, by simp, by simp, by simp, by simp⟩ (by simp) (by omega)
      rw [hrow] at st2
      simp only [Int.ofNat_zero, Int.cast_ofNat_Int, KB4] at st2
      rw [brand_monoid_below.L0_eq]
      simp [KB0, hlen, show S.2.length ≤ 4611686018427387904 by omega, show S.2.length * 24 ≤ 70368744177664 by omega]
      simp only [hlen] at st2
      exact st2)
  simp only [Int.ofNat_zero, Int.cast_ofNat_Int, KB0] at st
  rw [monV, brand_monoid_below.call_eq _ _ _ _ (by simp)]
  simp only [wdsV, monV, hlen] at st ⊢
  simp [hlen, show S.2.length ≤ 4611686018427387904 by omega, show S.2.length * 24 ≤ 70368744177664 by omega]
  rw [st]
  rfl
open Classical in
theorem belM_law {rows : List (List Int)} {good : List Bool} {k : Nat} (v : VB rows good k) {S : SM} (W : MW rows k S) (lf rt : Bool) : Wf S.1.length (belM rows S k lf rt) ∧ ∀ i j, i < S.1.length → j < S.1.length → mth (belM rows S k lf rt) i j = decide (Blw rows S k lf rt i j) := by
  have hs : ∀ j, j < S.1.length → ∀ k' ∈ stpM rows S k lf rt j, k' < S.1.length := fun j hj => stpM_lt v W hj
  have hs' : ∀ j, ∀ k' ∈ (fun j => if j < S.1.length then stpM rows S k lf rt j else []) j, k' < S.1.length := fun j k' hk' => by
    by_cases q : j < S.1.length
    · simp only [if_pos q] at hk'; exact hs j q k' hk'
    · simp only [if_neg q] at hk'; simp at hk'
  have key : ∀ i, i < S.1.length → (rowB (stpM rows S k lf rt) S.1.length i).length = S.1.length ∧ ∀ j, j < S.1.length → (bnth (rowB (stpM rows S k lf rt) S.1.length i) j = true ↔ Blw rows S k lf rt i j) := by
    intro i hi
    have e : rowB (stpM rows S k lf rt) S.1.length i = rowB (fun j => if j < S.1.length then stpM rows S k lf rt j else []) S.1.length i := by
      refine (vis_congr hs' (fun j hj => by simp only [if_pos hj]) _ _ (VI0 _ hi).1).symm
    obtain ⟨v0, v1⟩ := VI0 (fun j => if j < S.1.length then stpM rows S k lf rt j else []) hi
    obtain ⟨l1, l2⟩ := vis_law hs' hi _ _ v0 v1
    rw [e]
    refine ⟨l1, fun j hj => (l2 j hj).trans ⟨fun r => ?_, fun b => ?_⟩⟩
    · refine blw_of_rch v W hi ?_
      have : ∀ j, Rch (fun j => if j < S.1.length then stpM rows S k lf rt j else []) i j → Rch (stpM rows S k lf rt) i j ∧ j < S.1.length := by
        intro j r
        induction r with
        | refl => exact ⟨.refl, hi⟩
        | step r1 hk ih =>
          simp only [if_pos ih.2] at hk
          exact ⟨ih.1.step hk, hs _ ih.2 _ hk⟩
      exact (this j r).1
    · have : ∀ j, Rch (stpM rows S k lf rt) i j → Rch (fun j => if j < S.1.length then stpM rows S k lf rt j else []) i j ∧ j < S.1.length := by
        intro j r
        induction r with
        | refl => exact ⟨.refl, hi⟩
        | step r1 hk ih => exact ⟨ih.1.step (by simp only [if_pos ih.2]; exact hk), hs _ ih.2 _ hk⟩
      exact (this j (rch_of_blw v W hi b)).1
  have hb : ∀ i, i < S.1.length → brw (belM rows S k lf rt) i = rowB (stpM rows S k lf rt) S.1.length i := fun i hi => by simp [brw, belM, List.getD_eq_getElem?_getD, hi]
  refine ⟨⟨by simp [belM], fun i hi => by rw [hb i hi]; exact (key i hi).1⟩, fun i j hi hj => ?_⟩
  rw [mth, hb i hi]
  have := (key i hi).2 j hj
  by_cases q : Blw rows S k lf rt i j
  · rw [this.2 q, decide_eq_true q]
  · rw [decide_eq_false q, Bool.eq_false_iff]; exact fun e => q (this.1 e)
end Go.Proofs.Ythnpflkpjimkfaa

/-
  CLASSES: what the program returns. Conditions: none.
-/
namespace Go.Proofs.Ythnpflkpjimkfaa
open Go.AM
open Go.Proofs.Try (prog)
set_option linter.all false
set_option maxRecDepth 100000
set_option maxHeartbeats 8000000
structure Eqv (E : Nat → Nat → Bool) (n : Nat) : Prop where
  rf : ∀ i, i < n → E i i = true
  sy : ∀ i j, i < n → j < n → E i j = true → E j i = true
  tr : ∀ i j k, i < n → j < n → k < n → E i j = true → E j k = true → E i k = true
def frstB (E : Nat → Nat → Bool) (i : Nat) : Bool := !(List.range i).any fun j => E j i
def clsR (E : Nat → Nat → Bool) (n c : Nat) : List (List Nat) := ((List.range c).filter (frstB E)).map fun i => (List.range n).filter (E i)
def clsL (E : Nat → Nat → Bool) (n : Nat) : List (List Nat) := clsR E n n
theorem clsR_succ (E : Nat → Nat → Bool) (n c : Nat) : clsR E n (c + 1) = clsR E n c ++ if frstB E c = true then [(List.range n).filter (E c)] else [] := by
  rw [clsR, clsR, List.range_succ, List.filter_append, List.map_append]
  congr 1
  by_cases q : frstB E c = true <;> simp [q]
def clV (S : SM) (c : List Nat) : List AV := c.map fun j => .str (wrd S j)
def clF (S : SM) (c : List Nat) : AV := .fsl false c.length (clV S c)
def clsV (S : SM) (l : List (List Nat)) : AV := .fsl false l.length (l.map (clF S))
theorem clV_closed (S : SM) (c : List Nat) : closedL (clV S c) = true := by
  induction c with
  | nil => rfl
  | cons a c ih => simp only [clV, List.map_cons, closedL] at ih ⊢; rw [ih]; rfl
noncomputable def KC0 : List Item := [.code brand_monoid_classes.r17, .code .ret]
noncomputable def KC2 : List Item := .code brand_monoid_classes.r15 :: .inBlock 1 :: .code brand_monoid_classes.r16 :: .inLoop brand_monoid_classes.l0 :: .inBlock 0 :: KC0
theorem cl_in {nv gv : AV} {rows : List (List Int)} {k : Nat} {S : SM} (W : MW rows k S) {D : MB} (hD : Wf S.1.length D) {E : Nat → Nat → Bool} (hE : ∀ i j, i < S.1.length → j < S.1.length → (mth D i j && mth D j i) = E i j) {Z i lo : Nat} (hi : i < S.1.length) (hZ : Z < lo) {o : AV} {r : Option Res} :
    ∀ (c j : Nat) (h : Nat → Option AObj) (nx0 : Nat) (w : AV) (sn : List Bool), j + c = S.1.length → h Z = some (.cells (bls sn)) → sn.length = S.1.length → Nl h w (clV S ((List.range j).filter (E i))) lo nx0 → lo ≤ nx0 → (w = .nils → (List.range j).filter (E i) = []) →
    (∀ h' nx' w' sn', h' Z = some (.cells (bls sn')) → sn'.length = S.1.length → (∀ j', j' < S.1.length → bnth sn' j' = (bnth sn j' || (decide (j ≤ j') && E i j'))) → Nl h' w' (clV S ((List.range S.1.length).filter (E i))) lo nx' → nx0 ≤ nx' → (∀ y, y < lo → y ≠ Z → h' y = h y) →
      brand_monoid_classes.L2 (monV nv gv S) (mbV S.1.length D) (.sl Z 1 0 S.1.length S.1.length) o (.int .i64 i) w' (.int .i64 S.2.length) (.int .i64 i) (wdsV S) (.int .i64 S.2.length) (.int .i64 S.1.length) ⟨h', nx'⟩ KC2 = r) →
    brand_monoid_classes.L2 (monV nv gv S) (mbV S.1.length D) (.sl Z 1 0 S.1.length S.1.length) o (.int .i64 i) w (.int .i64 S.2.length) (.int .i64 i) (wdsV S) (.int .i64 S.2.length) (.int .i64 j) ⟨h, nx0⟩ KC2 = r := by
  intro c
  have hle := W.ok.le
  have hlen := W.ok.len
  induction c with
  | zero =>
    intro j h nx0 w sn h1 h0 hl N hlo hwn hk
    have e : j = S.1.length := by omega
    subst e
    exact hk h nx0 w sn h0 hl (fun j' hj' => by rw [show decide (S.1.length ≤ j') = false from decide_eq_false (by omega)]; simp) N (Nat.le_refl _) (fun _ _ _ => rfl)
  | succ c ih =>
    intro j h nx0 w sn h1 h0 hl N hlo hwn hk
    have hj : j < S.1.length := by omega
    have hj2 : j < S.2.length := by omega
    have hwj : IntKind.wrap .i64 ((j : Int) + 1) = (j : Int) + 1 := wrap_id (by omega) (by omega)
    obtain ⟨w1, w2, w3, w4⟩ := W.wok hj
    have hdw : ((S.2.map AV.str).drop j).head? = some (.str (wrd S j)) := by rw [List.head?_drop, List.getElem?_map, w1]; rfl
    have m1 := mbV_head (n := S.1.length) (i := i) (L := D) (by rw [hD.l]; exact hi)
    have m2 := mbV_head (n := S.1.length) (i := j) (L := D) (by rw [hD.l]; exact hj)
    have b1 := bls_head (bs := brw D i) (i := j) (by rw [hD.r i hi]; exact hj)
    have b2 := bls_head (bs := brw D j) (i := i) (by rw [hD.r j hj]; exact hi)
    have q1 : bnth (brw D i) j = mth D i j := rfl
    have q2 : bnth (brw D j) i = mth D j i := rfl
    rw [q1] at b1
    rw [q2] at b2
    have hEij := hE i j hi hj
    have hflt : (List.range (j + 1)).filter (E i) = (List.range j).filter (E i) ++ if E i j = true then [j] else [] := by
      rw [List.range_succ, List.filter_append]; by_cases q : E i j = true <;> simp [q]
    have hfl : ((List.range j).filter (E i)).length ≤ j := by have := List.length_filter_le (E i) (List.range j); simpa using this
    cases qE : E i j with
    | false =>
      rw [qE] at hflt hEij
      simp only [Bool.false_eq_true, if_false, List.append_nil] at hflt
      have st := ih (j + 1) h nx0 w sn (by omega) h0 hl (by rw [hflt]; exact N) hlo (by rw [hflt]; exact hwn) (fun h' nx' w' sn' f1 f2 f3 f4 f5 f6 => hk h' nx' w' sn' f1 f2 (fun j' hj' => by
        rw [f3 j' hj']
        by_cases e : j' = j
        · subst e; rw [qE]; simp
        · congr 2; rw [decide_eq_decide]; omega) f4 f5 f6)
      simp only [Int.natCast_add, Int.cast_ofNat_Int] at st
      rw [brand_monoid_classes.L2_eq]
      simp only [mbV, wdsV, hD.l] at st ⊢
      cases e1 : mth D i j with
      | false =>
        rw [e1] at b1
        simp [hj2, hdw, hi, hj, m1, b1, hwj, -List.head?_drop, -List.map_drop]
        exact st
      | true =>
        rw [e1] at b1
        rw [e1, Bool.true_and] at hEij
        rw [hEij] at b2
        simp [hj2, hdw, hi, hj, m1, m2, b1, b2, hwj, -List.head?_drop, -List.map_drop]
        exact st
    | true =>
      rw [qE] at hflt hEij
      simp only [if_true] at hflt
      rw [Bool.and_eq_true] at hEij
      rw [hEij.1] at b1
      rw [hEij.2] at b2
      have hcv : clV S ((List.range j).filter (E i)) ++ [.str (wrd S j)] = clV S ((List.range (j + 1)).filter (E i)) := by rw [hflt]; simp [clV]
      obtain ⟨w', h', nx', g1, g2, g3, g4, g5, g6, g7⟩ := N.app (nx := nx0) (by' := 16) (Nat.le_refl _) hlo (by simp [clV]; omega) (.str (wrd S j))
      rw [hcv] at g2
      have low : ∀ y, y < lo → h' y = h y := fun y hy => g6 y (fun e => by
        rcases g5 y e with q | q
        · have := N.oid q; omega
        · omega)
      have hZ' : h' Z = some (.cells (bls sn)) := by rw [low Z hZ, h0]
      have st := ih (j + 1) (upd h' Z (some (.cells (bls (sn.set j true))))) nx' w' (sn.set j true) (by omega) (by simp) (by simp [hl]) (g2.fr (fun y y1 y2 _ => updNe (by omega)) (Nat.le_refl _)) (by omega) (fun e => absurd e g7) (fun h2 nx2 w2 sn2 f1 f2 f3 f4 f5 f6 => hk h2 nx2 w2 sn2 f1 f2 (fun j' hj' => by
        rw [f3 j' hj', bnth_set (by omega)]
        by_cases e : j = j'
        · subst e; rw [if_pos rfl, qE]; simp
        · rw [if_neg e]; congr 2; rw [decide_eq_decide]; omega) f4 (by omega) (fun y y1 y2 => by rw [f6 y y1 y2, updNe y2, low y y1]))
      simp only [Int.natCast_add, Int.cast_ofNat_Int] at st
      rw [brand_monoid_classes.L2_eq]
      simp only [mbV, wdsV, hD.l] at st ⊢
      simp [hj2, hdw, hi, hj, m1, m2, b1, b2, N.one, g1, hZ', hl, bls_set, hwj, -List.head?_drop, -List.map_drop]
      exact st
end Go.Proofs.Ythnpflkpjimkfaa

/-
  CLASSES: all of them. Conditions: none.
-/
namespace Go.Proofs.Ythnpflkpjimkfaa
open Go.AM
open Go.Proofs.Try (prog)
set_option linter.all false
set_option maxRecDepth 100000
set_option maxHeartbeats 8000000
theorem clF_deep (S : SM) (c : List Nat) (h : Nat → Option AObj) (d : Nat) : AM.deep h (d + 1) (clF S c) = some (clF S c) := rfl
theorem cl_out {nv gv : AV} {rows : List (List Int)} {k : Nat} {S : SM} (W : MW rows k S) {D : MB} (hD : Wf S.1.length D) {E : Nat → Nat → Bool} (hE : ∀ i j, i < S.1.length → j < S.1.length → (mth D i j && mth D j i) = E i j) (eq : Eqv E S.1.length) {Z lo : Nat} (hZ : Z < lo) :
    ∀ (c i : Nat) (h : Nat → Option AObj) (nx0 : Nat) (o : AV) (sn : List Bool), i + c = S.1.length → h Z = some (.cells (bls sn)) → sn.length = S.1.length → (∀ j', j' < S.1.length → bnth sn j' = (List.range i).any fun j => E j j') → Nl h o ((clsR E S.1.length i).map (clF S)) lo nx0 → lo ≤ nx0 → (0 < i → o ≠ .nils) → (clsR E S.1.length i).length ≤ i →
    brand_monoid_classes.L0 (monV nv gv S) (mbV S.1.length D) (.sl Z 1 0 S.1.length S.1.length) o (.int .i64 S.2.length) (.int .i64 i) ⟨h, nx0⟩ KC0 = some (clsV S (clsL E S.1.length), Mem.empty) := by
  intro c
  have hle := W.ok.le
  have hlen := W.ok.len
  have hpos := W.pos
  induction c with
  | zero =>
    intro i h nx0 o sn h1 h0 hl hsn N hlo hon hcl
    have e : i = S.2.length := by omega
    subst e
    have hd := N.deep 5 (fun x hx => by
      simp only [List.mem_map] at hx
      obtain ⟨b, _, rfl⟩ := hx
      exact clF_deep S b h 4) (hon (by omega))
    have e2 : clsL E S.1.length = clsR E S.1.length S.2.length := by rw [clsL, hlen]
    rw [brand_monoid_classes.L0_eq]
    simp [KC0, hd, clsV, e2]
    done
  | succ c ih =>
    intro i h nx0 o sn h1 h0 hl hsn N hlo hon hcl
    have hi : i < S.1.length := by omega
    have hi2 : i < S.2.length := by omega
    have hwi : IntKind.wrap .i64 ((i : Int) + 1) = (i : Int) + 1 := wrap_id (by omega) (by omega)
    have hany : ∀ j', ((List.range (i + 1)).any fun j => E j j') = (((List.range i).any fun j => E j j') || E i j') := fun j' => by rw [List.range_succ, List.any_append]; simp
    have hsc : (bls sn)[i]? = some (.bool (bnth sn i)) := by
      have : i < sn.length := by omega
      simp [bls, bnth, this, List.getD_eq_getElem?_getD]
    have hsi := hsn i hi
    cases q : (List.range i).any fun j => E j i with
    | true =>
      rw [q] at hsi
      rw [hsi] at hsc
      have hsx := (List.getElem?_eq_some_iff.1 hsc).2
      have hf : frstB E i = false := by rw [frstB, q]; rfl
      have e1 : clsR E S.1.length (i + 1) = clsR E S.1.length i := by rw [clsR_succ, hf]; simp
      obtain ⟨j0, hj0, hE0⟩ := List.any_eq_true.1 q
      have hj0 : j0 < i := by simpa using hj0
      have st := ih (i + 1) h nx0 o sn (by omega) h0 hl (fun j' hj' => by
        rw [hsn j' hj', hany]
        cases w : E i j' with
        | false => simp
        | true =>
          rw [Bool.or_true]
          exact List.any_eq_true.2 ⟨j0, by simpa using hj0, eq.tr j0 i j' (by omega) hi hj' hE0 w⟩) (by rw [e1]; exact N) hlo (fun _ => hon (by omega)) (by rw [e1]; omega)
      simp only [Int.natCast_add, Int.cast_ofNat_Int] at st
      rw [brand_monoid_classes.L0_eq]
      simp [hi2, hi, h0, hl, hsx, hwi]
      exact st
    | false =>
      rw [q] at hsi
      rw [hsi] at hsc
      have hsx := (List.getElem?_eq_some_iff.1 hsc).2
      have hf : frstB E i = true := by rw [frstB, q]; rfl
      have e1 : clsR E S.1.length (i + 1) = clsR E S.1.length i ++ [(List.range S.1.length).filter (E i)] := by rw [clsR_succ, hf]; simp
      have st := cl_in (nv := nv) (gv := gv) W hD hE (Z := Z) (lo := nx0) hi (by omega) (o := o) (r := some (clsV S (clsL E S.1.length), Mem.empty)) S.1.length 0 h nx0 .nils sn (by omega) h0 hl .nil (Nat.le_refl _) (fun _ => rfl) (fun h' nx' w' sn' f1 f2 f3 f4 f5 f6 => by
        have hmem : i ∈ (List.range S.1.length).filter (E i) := by simp [hi, eq.rf i hi]
        obtain ⟨R, rfl, w1, w2, w3⟩ := f4.sl (f4.nn (by
          intro e
          have := congrArg List.length e
          simp only [clV, List.length_map, List.length_nil] at this
          have := List.length_pos_of_mem hmem
          omega))
        have lcl : (clV S ((List.range S.1.length).filter (E i))).length = ((List.range S.1.length).filter (E i)).length := by simp [clV]
        have N2 : Nl (upd h' R none) o ((clsR E S.1.length i).map (clF S)) lo nx0 := N.fr (fun y y1 y2 _ => by rw [updNe (by omega), f6 y (by omega) (by omega)]) (Nat.le_refl _)
        obtain ⟨o', h2, n2, g1, g2, g3, g4, g5, g6, g7⟩ := N2.app (nx := nx') (by' := 24) (by omega) (by omega) (by simp; omega) (clF S ((List.range S.1.length).filter (E i)))
        have hZ2 : h2 Z = some (.cells (bls sn')) := by
          rw [g6 Z (fun e => by
            rcases g5 Z e with q | q
            · have := N.oid q; omega
            · omega), updNe (by omega), f1]
        have st2 := ih (i + 1) h2 n2 o' sn' (by omega) hZ2 f2 (fun j' hj' => by rw [f3 j' hj', hsn j' hj', hany]; simp) (by rw [e1, List.map_append]; exact g2) (by omega) (fun _ => g7) (by rw [e1]; simp; omega)
        simp only [Int.natCast_add, Int.cast_ofNat_Int] at st2
        have tk : (clV S ((List.range S.1.length).filter (E i))).take ((List.range S.1.length).filter (E i)).length = clV S ((List.range S.1.length).filter (E i)) := List.take_of_length_le (by omega)
        simp only [clF] at g1
        rw [brand_monoid_classes.L2_eq]
        simp only [wdsV]
        simp [KC2, ← hlen, w1, lcl, clV_closed, tk, N.one, g1, hwi]
        simp only [wdsV, ← hlen] at st2
        exact st2)
      simp only [Int.ofNat_zero, Int.cast_ofNat_Int] at st
      rw [brand_monoid_classes.L0_eq]
      simp only [wdsV, monV] at st ⊢
      simp [hi2, hi, h0, hl, hsx]
      exact st
theorem classes_spec {nv gv : AV} {ps : List AV} {rows : List (List Int)} {good : List Bool} {k : Nat} (hn : IsRows nv ps rows) (hg : IsB gv good) (v : VB rows good k) {S : SM} (W : MW rows k S) (lf rt : Bool) {E : Nat → Nat → Bool} (hE : ∀ i j, i < S.1.length → j < S.1.length → (mth (belM rows S k lf rt) i j && mth (belM rows S k lf rt) j i) = E i j) (eq : Eqv E S.1.length) (m : Mem) :
    denC prog ann 89 [monV nv gv S, .bool lf, .bool rt] m = some (clsV S (clsL E S.1.length), m) := by
  have hle := W.ok.le
  have hlen := W.ok.len
  have hb := fun m => below_spec hn hg v W lf rt m
  obtain ⟨hD, _⟩ := belM_law v W lf rt
  have st := cl_out (nv := nv) (gv := gv) W hD hE eq (Z := 0) (lo := 1) (by omega) S.1.length 0 (upd Mem.empty.h 0 (some (.cells (List.replicate S.1.length (.bool false))))) 1 .nils (List.replicate S.1.length false) (by omega) (by simp [bls]) (by simp) (fun j' hj' => by simp [bnth, List.getD_eq_getElem?_getD, hj']) .nil (by omega) (by omega) (by simp [clsR])
  simp only [Int.ofNat_zero, Int.cast_ofNat_Int, KC0] at st
  rw [monV, brand_monoid_classes.call_eq _ _ _ _ (by simp)]
  simp only [wdsV, monV] at st hb ⊢
  simp [← hlen, hb, show S.1.length ≤ 4611686018427387904 by omega, show S.1.length ≤ 70368744177664 by omega]
  simp only [← hlen] at st
  simp [← hlen] at hb
  first
    | (rw [st]; rfl)
    | (simp [hb, show S.1.length ≤ 4611686018427387904 by omega, show S.1.length ≤ 70368744177664 by omega]; rw [st]; rfl)
end Go.Proofs.Ythnpflkpjimkfaa

/-
  CLASSES: Left, Right, Classes; lists of lists that are the same. Conditions: none.
-/
namespace Go.Proofs.Ythnpflkpjimkfaa
open Go.AM
open Go.Proofs.Try (prog)
set_option linter.all false
set_option maxRecDepth 100000
set_option maxHeartbeats 8000000
theorem Rch.trans {stp : Nat → List Nat} {i j k : Nat} (h : Rch stp i j) (g : Rch stp j k) : Rch stp i k := by
  induction g with
  | refl => exact h
  | step _ hk ih => exact ih.step hk
section
variable {rows : List (List Int)} {good : List Bool} {k : Nat} {S : SM}
theorem Blw.rf (W : MW rows k S) {lf rt : Bool} {i : Nat} (hi : i < S.1.length) : Blw rows S k lf rt i i := ⟨[], [], okW_nil k, okW_nil k, fun _ => rfl, fun _ => rfl, by simpa using W.self hi⟩
theorem Blw.tr (v : VB rows good k) (W : MW rows k S) {lf rt : Bool} {i j l : Nat} (hi : i < S.1.length) (hj : j < S.1.length) (h : Blw rows S k lf rt i j) (g : Blw rows S k lf rt j l) : Blw rows S k lf rt i l :=
  blw_of_rch v W hi ((rch_of_blw v W hi h).trans (rch_of_blw v W hj g))
open Classical in
noncomputable def eqB (rows : List (List Int)) (S : SM) (k : Nat) (lf rt : Bool) (i j : Nat) : Bool := decide (Blw rows S k lf rt i j) && decide (Blw rows S k lf rt j i)
theorem eqB_eqv (v : VB rows good k) (W : MW rows k S) (lf rt : Bool) : Eqv (eqB rows S k lf rt) S.1.length := by
  refine ⟨fun i hi => ?_, fun i j _ _ h => ?_, fun i j l hi hj hl h g => ?_⟩
  · simp [eqB, Blw.rf W hi]
  · simp only [eqB, Bool.and_eq_true, decide_eq_true_eq] at h ⊢
    exact ⟨h.2, h.1⟩
  · simp only [eqB, Bool.and_eq_true, decide_eq_true_eq] at h g ⊢
    exact ⟨h.1.tr v W hi hj g.1, g.2.tr v W hl hj h.2⟩
end
noncomputable def clsM (rows : List (List Int)) (S : SM) (k : Nat) (lf rt : Bool) : List (List Nat) := clsL (eqB rows S k lf rt) S.1.length
theorem classed_spec {nv gv : AV} {ps : List AV} {rows : List (List Int)} {good : List Bool} (hn : IsRows nv ps rows) (hg : IsB gv good) (hl : rows.length ≤ 1000) (hgl : good.length ≤ 1000) (hr : ∀ i, i < rows.length → (cth rows i).length ≤ 1000) (lf rt : Bool) (m : Mem) :
    denC prog ann 76 [.agg [nv, gv], .bool lf, .bool rt] m = some (if validB rows good = true then (match madeB rows good (cth rows 0).length with | some S => .tup [clsV S (clsM (rowsM rows good (cth rows 0).length) S (cth rows 0).length lf rt), .int .i64 0] | none => .tup [.nils, .int .i64 7]) else .tup [.nils, .int .i64 1], m) := by
  have h1 := fun m => made_spec hn hg hl hgl hr m
  rw [brand_classed.call_eq _ _ _ _ (by simp [hn.closed, hg.closed])]
  cases c0 : validB rows good with
  | false =>
    rw [c0] at h1
    simp [hn.one, hg.one, hn.closed, hg.closed, h1]
    done
  | true =>
    rw [c0, if_pos rfl] at h1
    have v := VB.of c0
    cases e : madeB rows good (cth rows 0).length with
    | none =>
      rw [e] at h1
      simp only [mdR] at h1
      simp [hn.one, hg.one, hn.closed, hg.closed, h1]
      done
    | some S =>
      have W := MW_of v e
      have vm := VB_M v
      rw [e] at h1
      simp only [mdR, monV] at h1
      have hc := fun m => classes_spec (isRows_M rows good (cth rows 0).length) (isB_M rows good (cth rows 0).length) vm W lf rt (E := eqB (rowsM rows good (cth rows 0).length) S (cth rows 0).length lf rt) (fun i j hi hj => by rw [(belM_law vm W lf rt).2 i j hi hj, (belM_law vm W lf rt).2 j i hj hi, eqB]) (eqB_eqv vm W lf rt) m
      simp only [monV, clsV] at hc
      simp [hn.one, hg.one, hn.closed, hg.closed, h1, hc, clsV, clsM]
      done
noncomputable def clsRes (rows : List (List Int)) (good : List Bool) (lf rt : Bool) : AV := if validB rows good = true then (match madeB rows good (cth rows 0).length with | some S => .tup [clsV S (clsM (rowsM rows good (cth rows 0).length) S (cth rows 0).length lf rt), .int .i64 0] | none => .tup [.nils, .int .i64 7]) else .tup [.nils, .int .i64 1]
theorem classes45_spec {nv gv : AV} {ps : List AV} {rows : List (List Int)} {good : List Bool} (hn : IsRows nv ps rows) (hg : IsB gv good) (hl : rows.length ≤ 1000) (hgl : good.length ≤ 1000) (hr : ∀ i, i < rows.length → (cth rows i).length ≤ 1000) (m : Mem) : denC prog ann 45 [.agg [nv, gv]] m = some (clsRes rows good true true, m) := by
  have h1 := fun m => classed_spec hn hg hl hgl hr true true m
  rw [brand_Classes.call_eq _ _ (by simp [hn.closed, hg.closed])]
  unfold clsRes
  cases c0 : validB rows good with
  | false =>
    rw [c0] at h1
    simp [hn.one, hg.one, hn.closed, hg.closed, h1]
    done
  | true =>
    rw [c0, if_pos rfl] at h1
    cases e : madeB rows good (cth rows 0).length with
    | none =>
      rw [e] at h1
      simp [hn.one, hg.one, hn.closed, hg.closed, h1]
      done
    | some S =>
      rw [e] at h1
      simp only [clsV] at h1 ⊢
      simp [hn.one, hg.one, hn.closed, hg.closed, h1]
      done
theorem left47_spec {nv gv : AV} {ps : List AV} {rows : List (List Int)} {good : List Bool} (hn : IsRows nv ps rows) (hg : IsB gv good) (hl : rows.length ≤ 1000) (hgl : good.length ≤ 1000) (hr : ∀ i, i < rows.length → (cth rows i).length ≤ 1000) (m : Mem) : denC prog ann 47 [.agg [nv, gv]] m = some (clsRes rows good true false, m) := by
  have h1 := fun m => classed_spec hn hg hl hgl hr true false m
  rw [brand_Left.call_eq _ _ (by simp [hn.closed, hg.closed])]
  unfold clsRes
  cases c0 : validB rows good with
  | false =>
    rw [c0] at h1
    simp [hn.one, hg.one, hn.closed, hg.closed, h1]
    done
  | true =>
    rw [c0, if_pos rfl] at h1
    cases e : madeB rows good (cth rows 0).length with
    | none =>
      rw [e] at h1
      simp [hn.one, hg.one, hn.closed, hg.closed, h1]
      done
    | some S =>
      rw [e] at h1
      simp only [clsV] at h1 ⊢
      simp [hn.one, hg.one, hn.closed, hg.closed, h1]
      done
theorem right48_spec {nv gv : AV} {ps : List AV} {rows : List (List Int)} {good : List Bool} (hn : IsRows nv ps rows) (hg : IsB gv good) (hl : rows.length ≤ 1000) (hgl : good.length ≤ 1000) (hr : ∀ i, i < rows.length → (cth rows i).length ≤ 1000) (m : Mem) : denC prog ann 48 [.agg [nv, gv]] m = some (clsRes rows good false true, m) := by
  have h1 := fun m => classed_spec hn hg hl hgl hr false true m
  rw [brand_Right.call_eq _ _ (by simp [hn.closed, hg.closed])]
  unfold clsRes
  cases c0 : validB rows good with
  | false =>
    rw [c0] at h1
    simp [hn.one, hg.one, hn.closed, hg.closed, h1]
    done
  | true =>
    rw [c0, if_pos rfl] at h1
    cases e : madeB rows good (cth rows 0).length with
    | none =>
      rw [e] at h1
      simp [hn.one, hg.one, hn.closed, hg.closed, h1]
      done
    | some S =>
      rw [e] at h1
      simp only [clsV] at h1 ⊢
      simp [hn.one, hg.one, hn.closed, hg.closed, h1]
      done
def IsSS (v : AV) (l : List (List (List UInt8))) : Prop := (v = .nils ∧ l = []) ∨ ∃ ex cs, v = .fsl ex l.length cs ∧ cs.length = l.length ∧ ∀ i (hi : i < l.length), ∃ x, cs[i]? = some x ∧ IsS x l[i]
theorem IsSS.len {v : AV} {l : List (List (List UInt8))} (h : IsSS v l) : lenSl v = some (.int .i64 l.length) := by rcases h with ⟨rfl, rfl⟩ | ⟨_, _, rfl, _⟩ <;> rfl
theorem IsSS.closed {v : AV} {l : List (List (List UInt8))} (h : IsSS v l) : v.closed = true := by rcases h with ⟨rfl, rfl⟩ | ⟨_, _, rfl, _⟩ <;> rfl
theorem IsSS.one {v : AV} {l : List (List (List UInt8))} (h : IsSS v l) : v.one = true := by rcases h with ⟨rfl, rfl⟩ | ⟨_, _, rfl, _⟩ <;> rfl
theorem IsSS.at {v : AV} {l : List (List (List UInt8))} (h : IsSS v l) {i : Nat} (hi : i < l.length) : ∃ cs x, idxSl 1 v (.int .i64 (i : Int)) = some (.fptr cs) ∧ cs.head? = some x ∧ IsS x l[i] := by
  rcases h with ⟨rfl, rfl⟩ | ⟨_, cs, rfl, h1, h2⟩
  · simp at hi
  · obtain ⟨x, hx, hs⟩ := h2 i hi
    exact ⟨cs.drop i, x, by simp [hi], by rw [List.head?_drop]; exact hx, hs⟩
theorem clsL_few (E : Nat → Nat → Bool) (n : Nat) : (clsL E n).length ≤ n ∧ ∀ c ∈ clsL E n, c.length ≤ n := by
  refine ⟨?_, fun c hc => ?_⟩
  · have := List.length_filter_le (frstB E) (List.range n)
    simpa [clsL, clsR] using this
  · simp only [clsL, clsR, List.mem_map] at hc
    obtain ⟨i, _, rfl⟩ := hc
    have := List.length_filter_le (E i) (List.range n)
    simpa using this
end Go.Proofs.Ythnpflkpjimkfaa

/-
  BELOW: the specification's. Conditions: none.
-/
namespace Go.Proofs.Ythnpflkpjimkfaa
open Go.AM
open Go.Proofs.Try (prog)
set_option linter.all false
set_option maxRecDepth 100000
set_option maxHeartbeats 8000000
theorem pr_lt {rows : List (List Int)} {good : List Bool} {k : Nat} (v : VB rows good k) {S : SM} (W : MW rows k S) {i j : Nat} (hi : i < S.1.length) (hj : j < S.1.length) : pr rows S i j < S.1.length := by
  obtain ⟨_, w1, _, _⟩ := W.wok hi
  obtain ⟨_, w2, _, _⟩ := W.wok hj
  exact W.lt v.n6 v.k3 (okW_app w1 w2)
end Go.Proofs.Ythnpflkpjimkfaa
