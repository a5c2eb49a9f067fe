/-
  BODIES OF FUNCTIONS OF THE PROGRAM AS SMALL OPERATIONS (written by gen.py; checked by the kernel against the program). Conditions: none.
-/
import Derived.Test.YthnpflkpjimkfaaKAmH
import Derived.Test.YthnpflkpjimkfaaK00
set_option linter.all false
namespace Go.Proofs.Ythnpflkpjimkfaa
open Go.AM
open Go.Proofs.Try (prog)
set_option maxRecDepth 100000
set_option linter.all false
namespace brand_smallest
noncomputable section
variable (K : List Item) (s : St)
def b : Code := (Try.f56.body).getD .skip
theorem hf : prog.funcs[56]? = some Try.f56 := by kernel_rfl
def r0 := findReg b 0
def r1 := findReg b 1
def r2 := findReg b 2
def r3 := findReg b 3
def k0 := findBlk b 0
def l0 := loopOf k0
def L0 (x1 x2 x3 x4 x23 x24 : AV) (m : Mem) (K : List Item) : Option Res := den prog ann 56 (.code l0 :: .inLoop l0 :: .inBlock 0 :: K) ⟨[(1, x1), (2, x2), (3, x3), (4, x4), (23, x23), (24, x24)], 161, m⟩
def r4 := findReg b 4
def i0 := findCond b 0
def i0t := thenOf i0
def i0e := elseOf i0
def k1 := findBlk b 1
def r5 := findReg b 5
def r6 := findReg b 6
def r7 := findReg b 7
def k2 := findBlk b 2
def l2 := loopOf k2
def L2 (x1 x2 x3 x4 x5 x23 x24 x32 x33 : AV) (m : Mem) (K : List Item) : Option Res := den prog ann 56 (.code l2 :: .inLoop l2 :: .inBlock 2 :: K) ⟨[(1, x1), (2, x2), (3, x3), (4, x4), (5, x5), (23, x23), (24, x24), (32, x32), (33, x33)], 161, m⟩
def r8 := findReg b 8
def i1 := findCond b 1
def i1t := thenOf i1
def i1e := elseOf i1
def k3 := findBlk b 3
def r9 := findReg b 9
def r10 := findReg b 10
def r11 := findReg b 11
def r12 := findReg b 12
def r13 := findReg b 13
def k4 := findBlk b 4
def l4 := loopOf k4
def L4 (x1 x2 x3 x4 x7 : AV) (m : Mem) (K : List Item) : Option Res := den prog ann 56 (.code l4 :: .inLoop l4 :: .inBlock 4 :: K) ⟨[(1, x1), (2, x2), (3, x3), (4, x4), (7, x7)], 161, m⟩
def r14 := findReg b 14
def i2 := findCond b 2
def i2t := thenOf i2
def i2e := elseOf i2
def k5 := findBlk b 5
def r15 := findReg b 15
def r16 := findReg b 16
def k6 := findBlk b 6
def l6 := loopOf k6
def L6 (x1 x2 x3 x4 x7 x56 x57 : AV) (m : Mem) (K : List Item) : Option Res := den prog ann 56 (.code l6 :: .inLoop l6 :: .inBlock 6 :: K) ⟨[(1, x1), (2, x2), (3, x3), (4, x4), (7, x7), (56, x56), (57, x57)], 161, m⟩
def r17 := findReg b 17
def i3 := findCond b 3
def i3t := thenOf i3
def i3e := elseOf i3
def k7 := findBlk b 7
def r18 := findReg b 18
def r19 := findReg b 19
def k8 := findBlk b 8
def l8 := loopOf k8
def L8 (x1 x2 x3 x4 x7 x8 x56 x57 x60 x61 : AV) (m : Mem) (K : List Item) : Option Res := den prog ann 56 (.code l8 :: .inLoop l8 :: .inBlock 8 :: K) ⟨[(1, x1), (2, x2), (3, x3), (4, x4), (7, x7), (8, x8), (56, x56), (57, x57), (60, x60), (61, x61)], 161, m⟩
def r20 := findReg b 20
def i4 := findCond b 4
def i4t := thenOf i4
def i4e := elseOf i4
def k9 := findBlk b 9
def r21 := findReg b 21
def r22 := findReg b 22
def k10 := findBlk b 10
def l10 := loopOf k10
def L10 (x1 x2 x3 x4 x7 x8 x9 x56 x57 x60 x61 x69 x70 : AV) (m : Mem) (K : List Item) : Option Res := den prog ann 56 (.code l10 :: .inLoop l10 :: .inBlock 10 :: K) ⟨[(1, x1), (2, x2), (3, x3), (4, x4), (7, x7), (8, x8), (9, x9), (56, x56), (57, x57), (60, x60), (61, x61), (69, x69), (70, x70)], 161, m⟩
def r23 := findReg b 23
def i5 := findCond b 5
def i5t := thenOf i5
def i5e := elseOf i5
def k11 := findBlk b 11
def r24 := findReg b 24
def r25 := findReg b 25
def i6 := findCond b 6
def i6t := thenOf i6
def i6e := elseOf i6
def r26 := findReg b 26
def r27 := findReg b 27
def r28 := findReg b 28
def r29 := findReg b 29
def r30 := findReg b 30
def r31 := findReg b 31
def r32 := findReg b 32
def r33 := findReg b 33
def k12 := findBlk b 12
def l12 := loopOf k12
def L12 (x1 x2 x11 x12 x13 x14 : AV) (m : Mem) (K : List Item) : Option Res := den prog ann 56 (.code l12 :: .inLoop l12 :: .inBlock 12 :: K) ⟨[(1, x1), (2, x2), (11, x11), (12, x12), (13, x13), (14, x14)], 161, m⟩
def r34 := findReg b 34
def i7 := findCond b 7
def i7t := thenOf i7
def i7e := elseOf i7
def k13 := findBlk b 13
def r36 := findReg b 36
def r37 := findReg b 37
def k14 := findBlk b 14
def l14 := loopOf k14
def L14 (x1 x2 x11 x12 x13 x14 x15 x128 x129 x130 : AV) (m : Mem) (K : List Item) : Option Res := den prog ann 56 (.code l14 :: .inLoop l14 :: .inBlock 14 :: K) ⟨[(1, x1), (2, x2), (11, x11), (12, x12), (13, x13), (14, x14), (15, x15), (128, x128), (129, x129), (130, x130)], 161, m⟩
def r38 := findReg b 38
def i8 := findCond b 8
def i8t := thenOf i8
def i8e := elseOf i8
def k15 := findBlk b 15
def r39 := findReg b 39
def r40 := findReg b 40
def r41 := findReg b 41
def r42 := findReg b 42
def r35 := findReg b 35
def r43 := findReg b 43
theorem b_eq : den prog ann 56 (.code b :: K) s = den prog ann 56 (.code r0 :: .code r1 :: .code r2 :: .code r3 :: .code k0 :: .code r13 :: .code k4 :: .code r30 :: .code r31 :: .code r32 :: .code r33 :: .code k12 :: .code r43 :: .code .ret :: K) s := den_flat hf (l := [r0, r1, r2, r3, k0, r13, k4, r30, r31, r32, r33, k12, r43, .ret]) (by kernel_rfl) K s
theorem r0_eq : den prog ann 56 (.code r0 :: K) s = mreg prog ann 56 none [] none [] [qA 1 frozenPtr 0,⟨some 2, none, .w false none fun s => newPtr s.m [.nils, .nils]⟩] K s := (den_reg hf _ K s).trans (by kernel_rfl)
theorem r1_eq : den prog ann 56 (.code r1 :: K) s = mreg prog ann 56 none [] none [] [qA 18 (fieldA 0) 1,qA 19 (loadF false 1) 18,qA 20 lenSl 19,qC 3 20] K s := (den_reg hf _ K s).trans (by kernel_rfl)
theorem r2_eq : den prog ann 56 (.code r2 :: K) s = mreg prog ann 56 none [] none [4] [qC 21 3,⟨some 22, none, .w false none fun s => makeA 1 24 (.nils) s.m (s.get 21) (s.get 21)⟩,⟨some 4, none, .w false none fun s => newPtr s.m [.nils]⟩,⟨none, none, .w false none fun s => stA false 1 s.m (s.get 4) (s.get 22)⟩] K s := (den_reg hf _ K s).trans (by kernel_rfl)
theorem r3_eq : den prog ann 56 (.code r3 :: K) s = mreg prog ann 56 none [] none [] [qC 23 3,qF 24 fun s => some (.int .i64 0)] K s := (den_reg hf _ K s).trans (by kernel_rfl)
theorem k0_eq (K : List Item) (t : List (Nat × AV)) (m : Mem) : den prog ann 56 (.code k0 :: K) ⟨t, 161, m⟩ = L0 (get t 1) (get t 2) (get t 3) (get t 4) (get t 23) (get t 24) m K := den_loop_enter hf (b := l0) (id := 4) (l := [1, 2, 3, 4, 23, 24]) (by kernel_rfl) (by kernel_rfl) (by kernel_rfl) K _
theorem l0_eq (K : List Item) (t : List (Nat × AV)) (m : Mem) : den prog ann 56 (.inLoop l0 :: .inBlock 0 :: K) ⟨t, 161, m⟩ = L0 (get t 1) (get t 2) (get t 3) (get t 4) (get t 23) (get t 24) m K := den_loop_again hf (id := 4) (l := [1, 2, 3, 4, 23, 24]) (by kernel_rfl) (by kernel_rfl) (.inBlock 0 :: K) _
theorem L0_eq (x1 x2 x3 x4 x23 x24 : AV) (m : Mem) (K : List Item) : L0 x1 x2 x3 x4 x23 x24 m K = den prog ann 56 (.code r4 :: .code i0 :: .code k1 :: .code r12 :: .inLoop l0 :: .inBlock 0 :: K) ⟨[(1, x1), (2, x2), (3, x3), (4, x4), (23, x23), (24, x24)], 161, m⟩ := den_flat hf (l := [r4, i0, k1, r12]) (by kernel_rfl) _ _
theorem r4_eq : den prog ann 56 (.code r4 :: K) s = mreg prog ann 56 (some [1, 2, 3, 4, 23, 24]) [] none [] [qB 25 (binA prog .lss 3) 24 23] K s := (den_reg hf _ K s).trans (by kernel_rfl)
theorem i0_eq : den prog ann 56 (.code i0 :: K) s = ifV prog ann 56 25 i0t i0e K s (s.get 25) := den_if hf (by kernel_rfl) K s
theorem i0t_eq : den prog ann 56 (.code i0t :: K) s = den prog ann 56 (K) s := den_flat hf (l := []) (by kernel_rfl) K s
theorem i0e_eq : den prog ann 56 (.code i0e :: K) s = den prog ann 56 (.code (.exit 0) :: K) s := den_flat hf (l := [(.exit 0)]) (by kernel_rfl) K s
theorem k1_eq : den prog ann 56 (.code k1 :: K) s = den prog ann 56 (.code r5 :: .code r6 :: .code r7 :: .code k2 :: .inBlock 1 :: K) s := den_blk hf (b := blkOf k1) (l := [r5, r6, r7, k2]) (by kernel_rfl) (by kernel_rfl) K s
theorem r5_eq : den prog ann 56 (.code r5 :: K) s = mreg prog ann 56 none [] none [] [qC 26 24,qC 5 26] K s := (den_reg hf _ K s).trans (by kernel_rfl)
theorem r6_draw : drawOk (fun g => (ann g).pure) (modeOf (ann 56) (idOf r6)) (frzOf (ann 56) (idOf r6)) (opsOf r6) = true := drawOk_of (an := [0, 0, 0, 4, 15, 31]) (by kernel_rfl) (by kernel_rfl)
theorem r6_eq : den prog ann 56 (.code r6 :: K) s = mreg prog ann 56 none [] (some 6) [] [qA 27 (loadF false 1) 4,qC 28 5,qC 29 3,⟨some 30, none, .w false (some 3) fun s => makeA 1 1 (.bool false) s.m (s.get 29) (s.get 29)⟩,qB 31 (idxSl 1) 27 28,⟨none, none, .w false (some 5) fun s => stA false 1 s.m (s.get 31) (s.get 30)⟩] K s := (den_regD hf r6_draw K s).trans (by kernel_rfl)
theorem r7_eq : den prog ann 56 (.code r7 :: K) s = mreg prog ann 56 none [] none [] [qC 32 3,qF 33 fun s => some (.int .i64 0)] K s := (den_reg hf _ K s).trans (by kernel_rfl)
theorem k2_eq (K : List Item) (t : List (Nat × AV)) (m : Mem) : den prog ann 56 (.code k2 :: K) ⟨t, 161, m⟩ = L2 (get t 1) (get t 2) (get t 3) (get t 4) (get t 5) (get t 23) (get t 24) (get t 32) (get t 33) m K := den_loop_enter hf (b := l2) (id := 8) (l := [1, 2, 3, 4, 5, 23, 24, 32, 33]) (by kernel_rfl) (by kernel_rfl) (by kernel_rfl) K _
theorem l2_eq (K : List Item) (t : List (Nat × AV)) (m : Mem) : den prog ann 56 (.inLoop l2 :: .inBlock 2 :: K) ⟨t, 161, m⟩ = L2 (get t 1) (get t 2) (get t 3) (get t 4) (get t 5) (get t 23) (get t 24) (get t 32) (get t 33) m K := den_loop_again hf (id := 8) (l := [1, 2, 3, 4, 5, 23, 24, 32, 33]) (by kernel_rfl) (by kernel_rfl) (.inBlock 2 :: K) _
theorem L2_eq (x1 x2 x3 x4 x5 x23 x24 x32 x33 : AV) (m : Mem) (K : List Item) : L2 x1 x2 x3 x4 x5 x23 x24 x32 x33 m K = den prog ann 56 (.code r8 :: .code i1 :: .code k3 :: .code r11 :: .inLoop l2 :: .inBlock 2 :: K) ⟨[(1, x1), (2, x2), (3, x3), (4, x4), (5, x5), (23, x23), (24, x24), (32, x32), (33, x33)], 161, m⟩ := den_flat hf (l := [r8, i1, k3, r11]) (by kernel_rfl) _ _
theorem r8_eq : den prog ann 56 (.code r8 :: K) s = mreg prog ann 56 (some [1, 2, 3, 4, 5, 23, 24, 32, 33]) [] none [] [qB 34 (binA prog .lss 3) 33 32] K s := (den_reg hf _ K s).trans (by kernel_rfl)
theorem i1_eq : den prog ann 56 (.code i1 :: K) s = ifV prog ann 56 34 i1t i1e K s (s.get 34) := den_if hf (by kernel_rfl) K s
theorem i1t_eq : den prog ann 56 (.code i1t :: K) s = den prog ann 56 (K) s := den_flat hf (l := []) (by kernel_rfl) K s
theorem i1e_eq : den prog ann 56 (.code i1e :: K) s = den prog ann 56 (.code (.exit 2) :: K) s := den_flat hf (l := [(.exit 2)]) (by kernel_rfl) K s
theorem k3_eq : den prog ann 56 (.code k3 :: K) s = den prog ann 56 (.code r9 :: .code r10 :: .inBlock 3 :: K) s := den_blk hf (b := blkOf k3) (l := [r9, r10]) (by kernel_rfl) (by kernel_rfl) K s
theorem r9_eq : den prog ann 56 (.code r9 :: K) s = mreg prog ann 56 none [] none [] [qC 35 33,qC 6 35] K s := (den_reg hf _ K s).trans (by kernel_rfl)
theorem r10_draw : drawOk (fun g => (ann g).pure) (modeOf (ann 56) (idOf r10)) (frzOf (ann 56) (idOf r10)) (opsOf r10) = true := drawOk_of (an := [0, 0, 3, 7, 0, 0, 32, 0, 224, 480, 0, 1024, 0, 7168, 15360, 32736, 65535, 131071]) (by kernel_rfl) (by kernel_rfl)
theorem r10_eq : den prog ann 56 (.code r10 :: K) s = mreg prog ann 56 none [] (some 18) [] [qA 36 (loadF false 1) 4,qC 37 5,qB 38 (idxSl 1) 36 37,qF 39 fun s => loadA false 1 s.m (s.get 38),qC 40 6,qA 41 (fieldA 1) 1,qA 42 (loadF false 1) 41,qC 43 5,qB 44 (idxSl 1) 42 43,qA 45 (loadF false 1) 44,qA 46 (fieldA 1) 1,qA 47 (loadF false 1) 46,qC 48 6,qB 49 (idxSl 1) 47 48,qA 50 (loadF false 1) 49,qB 51 (binA prog .neq 4) 45 50,qB 52 (idxSl 1) 39 40,⟨none, none, .w false (some 17) fun s => stA false 1 s.m (s.get 52) (s.get 51)⟩] K s := (den_regD hf r10_draw K s).trans (by kernel_rfl)
theorem r11_eq : den prog ann 56 (.code r11 :: K) s = mreg prog ann 56 (some [1, 2, 3, 4, 5, 23, 24, 32, 33]) [] none [] [qF 53 fun s => binA prog .add 3 (s.get 33) (.int .i64 1),qC 33 53] K s := (den_reg hf _ K s).trans (by kernel_rfl)
theorem r12_eq : den prog ann 56 (.code r12 :: K) s = mreg prog ann 56 (some [1, 2, 3, 4, 23, 24]) [] none [] [qF 54 fun s => binA prog .add 3 (s.get 24) (.int .i64 1),qC 24 54] K s := (den_reg hf _ K s).trans (by kernel_rfl)
theorem r13_eq : den prog ann 56 (.code r13 :: K) s = mreg prog ann 56 (some [1, 2, 3, 4]) [] none [] [qF 7 fun s => some (.bool true)] K s := (den_reg hf _ K s).trans (by kernel_rfl)
theorem k4_eq (K : List Item) (t : List (Nat × AV)) (m : Mem) : den prog ann 56 (.code k4 :: K) ⟨t, 161, m⟩ = L4 (get t 1) (get t 2) (get t 3) (get t 4) (get t 7) m K := den_loop_enter hf (b := l4) (id := 14) (l := [1, 2, 3, 4, 7]) (by kernel_rfl) (by kernel_rfl) (by kernel_rfl) K _
theorem l4_eq (K : List Item) (t : List (Nat × AV)) (m : Mem) : den prog ann 56 (.inLoop l4 :: .inBlock 4 :: K) ⟨t, 161, m⟩ = L4 (get t 1) (get t 2) (get t 3) (get t 4) (get t 7) m K := den_loop_again hf (id := 14) (l := [1, 2, 3, 4, 7]) (by kernel_rfl) (by kernel_rfl) (.inBlock 4 :: K) _
theorem L4_eq (x1 x2 x3 x4 x7 : AV) (m : Mem) (K : List Item) : L4 x1 x2 x3 x4 x7 m K = den prog ann 56 (.code r14 :: .code i2 :: .code k5 :: .inLoop l4 :: .inBlock 4 :: K) ⟨[(1, x1), (2, x2), (3, x3), (4, x4), (7, x7)], 161, m⟩ := den_flat hf (l := [r14, i2, k5]) (by kernel_rfl) _ _
theorem r14_eq : den prog ann 56 (.code r14 :: K) s = mreg prog ann 56 (some [1, 2, 3, 4, 7]) [] none [] [qC 55 7] K s := (den_reg hf _ K s).trans (by kernel_rfl)
theorem i2_eq : den prog ann 56 (.code i2 :: K) s = ifV prog ann 56 55 i2t i2e K s (s.get 55) := den_if hf (by kernel_rfl) K s
theorem i2t_eq : den prog ann 56 (.code i2t :: K) s = den prog ann 56 (K) s := den_flat hf (l := []) (by kernel_rfl) K s
theorem i2e_eq : den prog ann 56 (.code i2e :: K) s = den prog ann 56 (.code (.exit 4) :: K) s := den_flat hf (l := [(.exit 4)]) (by kernel_rfl) K s
theorem k5_eq : den prog ann 56 (.code k5 :: K) s = den prog ann 56 (.code r15 :: .code r16 :: .code k6 :: .inBlock 5 :: K) s := den_blk hf (b := blkOf k5) (l := [r15, r16, k6]) (by kernel_rfl) (by kernel_rfl) K s
theorem r15_eq : den prog ann 56 (.code r15 :: K) s = mreg prog ann 56 none [] none [] [qF 7 fun s => some (.bool false)] K s := (den_reg hf _ K s).trans (by kernel_rfl)
theorem r16_eq : den prog ann 56 (.code r16 :: K) s = mreg prog ann 56 none [] none [] [qC 56 3,qF 57 fun s => some (.int .i64 0)] K s := (den_reg hf _ K s).trans (by kernel_rfl)
theorem k6_eq (K : List Item) (t : List (Nat × AV)) (m : Mem) : den prog ann 56 (.code k6 :: K) ⟨t, 161, m⟩ = L6 (get t 1) (get t 2) (get t 3) (get t 4) (get t 7) (get t 56) (get t 57) m K := den_loop_enter hf (b := l6) (id := 17) (l := [1, 2, 3, 4, 7, 56, 57]) (by kernel_rfl) (by kernel_rfl) (by kernel_rfl) K _
theorem l6_eq (K : List Item) (t : List (Nat × AV)) (m : Mem) : den prog ann 56 (.inLoop l6 :: .inBlock 6 :: K) ⟨t, 161, m⟩ = L6 (get t 1) (get t 2) (get t 3) (get t 4) (get t 7) (get t 56) (get t 57) m K := den_loop_again hf (id := 17) (l := [1, 2, 3, 4, 7, 56, 57]) (by kernel_rfl) (by kernel_rfl) (.inBlock 6 :: K) _
theorem L6_eq (x1 x2 x3 x4 x7 x56 x57 : AV) (m : Mem) (K : List Item) : L6 x1 x2 x3 x4 x7 x56 x57 m K = den prog ann 56 (.code r17 :: .code i3 :: .code k7 :: .code r29 :: .inLoop l6 :: .inBlock 6 :: K) ⟨[(1, x1), (2, x2), (3, x3), (4, x4), (7, x7), (56, x56), (57, x57)], 161, m⟩ := den_flat hf (l := [r17, i3, k7, r29]) (by kernel_rfl) _ _
theorem r17_eq : den prog ann 56 (.code r17 :: K) s = mreg prog ann 56 (some [1, 2, 3, 4, 7, 56, 57]) [] none [] [qB 58 (binA prog .lss 3) 57 56] K s := (den_reg hf _ K s).trans (by kernel_rfl)
theorem i3_eq : den prog ann 56 (.code i3 :: K) s = ifV prog ann 56 58 i3t i3e K s (s.get 58) := den_if hf (by kernel_rfl) K s
theorem i3t_eq : den prog ann 56 (.code i3t :: K) s = den prog ann 56 (K) s := den_flat hf (l := []) (by kernel_rfl) K s
theorem i3e_eq : den prog ann 56 (.code i3e :: K) s = den prog ann 56 (.code (.exit 6) :: K) s := den_flat hf (l := [(.exit 6)]) (by kernel_rfl) K s
theorem k7_eq : den prog ann 56 (.code k7 :: K) s = den prog ann 56 (.code r18 :: .code r19 :: .code k8 :: .inBlock 7 :: K) s := den_blk hf (b := blkOf k7) (l := [r18, r19, k8]) (by kernel_rfl) (by kernel_rfl) K s
theorem r18_eq : den prog ann 56 (.code r18 :: K) s = mreg prog ann 56 none [] none [] [qC 59 57,qC 8 59] K s := (den_reg hf _ K s).trans (by kernel_rfl)
theorem r19_eq : den prog ann 56 (.code r19 :: K) s = mreg prog ann 56 none [] none [] [qC 60 3,qF 61 fun s => some (.int .i64 0)] K s := (den_reg hf _ K s).trans (by kernel_rfl)
theorem k8_eq (K : List Item) (t : List (Nat × AV)) (m : Mem) : den prog ann 56 (.code k8 :: K) ⟨t, 161, m⟩ = L8 (get t 1) (get t 2) (get t 3) (get t 4) (get t 7) (get t 8) (get t 56) (get t 57) (get t 60) (get t 61) m K := den_loop_enter hf (b := l8) (id := 20) (l := [1, 2, 3, 4, 7, 8, 56, 57, 60, 61]) (by kernel_rfl) (by kernel_rfl) (by kernel_rfl) K _
theorem l8_eq (K : List Item) (t : List (Nat × AV)) (m : Mem) : den prog ann 56 (.inLoop l8 :: .inBlock 8 :: K) ⟨t, 161, m⟩ = L8 (get t 1) (get t 2) (get t 3) (get t 4) (get t 7) (get t 8) (get t 56) (get t 57) (get t 60) (get t 61) m K := den_loop_again hf (id := 20) (l := [1, 2, 3, 4, 7, 8, 56, 57, 60, 61]) (by kernel_rfl) (by kernel_rfl) (.inBlock 8 :: K) _
theorem L8_eq (x1 x2 x3 x4 x7 x8 x56 x57 x60 x61 : AV) (m : Mem) (K : List Item) : L8 x1 x2 x3 x4 x7 x8 x56 x57 x60 x61 m K = den prog ann 56 (.code r20 :: .code i4 :: .code k9 :: .code r28 :: .inLoop l8 :: .inBlock 8 :: K) ⟨[(1, x1), (2, x2), (3, x3), (4, x4), (7, x7), (8, x8), (56, x56), (57, x57), (60, x60), (61, x61)], 161, m⟩ := den_flat hf (l := [r20, i4, k9, r28]) (by kernel_rfl) _ _
theorem r20_eq : den prog ann 56 (.code r20 :: K) s = mreg prog ann 56 (some [1, 2, 3, 4, 7, 8, 56, 57, 60, 61]) [] none [] [qB 62 (binA prog .lss 3) 61 60] K s := (den_reg hf _ K s).trans (by kernel_rfl)
theorem i4_eq : den prog ann 56 (.code i4 :: K) s = ifV prog ann 56 62 i4t i4e K s (s.get 62) := den_if hf (by kernel_rfl) K s
theorem i4t_eq : den prog ann 56 (.code i4t :: K) s = den prog ann 56 (K) s := den_flat hf (l := []) (by kernel_rfl) K s
theorem i4e_eq : den prog ann 56 (.code i4e :: K) s = den prog ann 56 (.code (.exit 8) :: K) s := den_flat hf (l := [(.exit 8)]) (by kernel_rfl) K s
theorem k9_eq : den prog ann 56 (.code k9 :: K) s = den prog ann 56 (.code r21 :: .code r22 :: .code k10 :: .inBlock 9 :: K) s := den_blk hf (b := blkOf k9) (l := [r21, r22, k10]) (by kernel_rfl) (by kernel_rfl) K s
theorem r21_eq : den prog ann 56 (.code r21 :: K) s = mreg prog ann 56 none [] none [] [qC 63 61,qC 9 63] K s := (den_reg hf _ K s).trans (by kernel_rfl)
theorem r22_eq : den prog ann 56 (.code r22 :: K) s = mreg prog ann 56 none [] none [] [qA 64 (fieldA 0) 1,qA 65 (loadF false 1) 64,qC 66 8,qB 67 (idxSl 1) 65 66,qA 68 (loadF false 1) 67,qA 69 lenSl 68,qF 70 fun s => some (.int .i64 0)] K s := (den_reg hf _ K s).trans (by kernel_rfl)
theorem k10_eq (K : List Item) (t : List (Nat × AV)) (m : Mem) : den prog ann 56 (.code k10 :: K) ⟨t, 161, m⟩ = L10 (get t 1) (get t 2) (get t 3) (get t 4) (get t 7) (get t 8) (get t 9) (get t 56) (get t 57) (get t 60) (get t 61) (get t 69) (get t 70) m K := den_loop_enter hf (b := l10) (id := 23) (l := [1, 2, 3, 4, 7, 8, 9, 56, 57, 60, 61, 69, 70]) (by kernel_rfl) (by kernel_rfl) (by kernel_rfl) K _
theorem l10_eq (K : List Item) (t : List (Nat × AV)) (m : Mem) : den prog ann 56 (.inLoop l10 :: .inBlock 10 :: K) ⟨t, 161, m⟩ = L10 (get t 1) (get t 2) (get t 3) (get t 4) (get t 7) (get t 8) (get t 9) (get t 56) (get t 57) (get t 60) (get t 61) (get t 69) (get t 70) m K := den_loop_again hf (id := 23) (l := [1, 2, 3, 4, 7, 8, 9, 56, 57, 60, 61, 69, 70]) (by kernel_rfl) (by kernel_rfl) (.inBlock 10 :: K) _
theorem L10_eq (x1 x2 x3 x4 x7 x8 x9 x56 x57 x60 x61 x69 x70 : AV) (m : Mem) (K : List Item) : L10 x1 x2 x3 x4 x7 x8 x9 x56 x57 x60 x61 x69 x70 m K = den prog ann 56 (.code r23 :: .code i5 :: .code k11 :: .code r27 :: .inLoop l10 :: .inBlock 10 :: K) ⟨[(1, x1), (2, x2), (3, x3), (4, x4), (7, x7), (8, x8), (9, x9), (56, x56), (57, x57), (60, x60), (61, x61), (69, x69), (70, x70)], 161, m⟩ := den_flat hf (l := [r23, i5, k11, r27]) (by kernel_rfl) _ _
theorem r23_eq : den prog ann 56 (.code r23 :: K) s = mreg prog ann 56 (some [1, 2, 3, 4, 7, 8, 9, 56, 57, 60, 61, 69, 70]) [] none [] [qB 71 (binA prog .lss 3) 70 69] K s := (den_reg hf _ K s).trans (by kernel_rfl)
theorem i5_eq : den prog ann 56 (.code i5 :: K) s = ifV prog ann 56 71 i5t i5e K s (s.get 71) := den_if hf (by kernel_rfl) K s
theorem i5t_eq : den prog ann 56 (.code i5t :: K) s = den prog ann 56 (K) s := den_flat hf (l := []) (by kernel_rfl) K s
theorem i5e_eq : den prog ann 56 (.code i5e :: K) s = den prog ann 56 (.code (.exit 10) :: K) s := den_flat hf (l := [(.exit 10)]) (by kernel_rfl) K s
theorem k11_eq : den prog ann 56 (.code k11 :: K) s = den prog ann 56 (.code r24 :: .code r25 :: .code i6 :: .inBlock 11 :: K) s := den_blk hf (b := blkOf k11) (l := [r24, r25, i6]) (by kernel_rfl) (by kernel_rfl) K s
theorem r24_eq : den prog ann 56 (.code r24 :: K) s = mreg prog ann 56 none [] none [] [qC 72 70,qC 10 72] K s := (den_reg hf _ K s).trans (by kernel_rfl)
theorem r25_draw : drawOk (fun g => (ann g).pure) (modeOf (ann 56) (idOf r25)) (frzOf (ann 56) (idOf r25)) (opsOf r25) = true := drawOk_of (an := [0, 0, 3, 7, 0, 31, 63, 127, 255, 511, 511, 1535, 511, 7679, 15871, 511, 65023, 130559, 262143, 524287, 511, 1049087, 511, 7340543, 15729151, 511, 66060799, 133169663, 268435455, 536870911, 1073741823]) (by kernel_rfl) (by kernel_rfl)
theorem r25_eq : den prog ann 56 (.code r25 :: K) s = mreg prog ann 56 none [] (some 31) [] [qA 73 (loadF false 1) 4,qC 74 8,qB 75 (idxSl 1) 73 74,qF 76 fun s => loadA false 1 s.m (s.get 75),qC 77 9,qB 78 (idxSl 1) 76 77,qF 79 fun s => loadA false 1 s.m (s.get 78),qA 80 (unA .not) 79,qC 81 80,⟨some 82, some (81, true), .v fun s => loadF false 1 (s.get 4)⟩,⟨some 83, some (81, true), .v fun s => fieldA 0 (s.get 1)⟩,⟨some 84, some (81, true), .v fun s => loadF false 1 (s.get 83)⟩,⟨some 85, some (81, true), .v fun s => some (s.get 8)⟩,⟨some 86, some (81, true), .v fun s => idxSl 1 (s.get 84) (s.get 85)⟩,⟨some 87, some (81, true), .v fun s => loadF false 1 (s.get 86)⟩,⟨some 88, some (81, true), .v fun s => some (s.get 10)⟩,⟨some 89, some (81, true), .v fun s => idxSl 1 (s.get 87) (s.get 88)⟩,⟨some 90, some (81, true), .v fun s => loadF false 1 (s.get 89)⟩,⟨some 91, some (81, true), .v fun s => idxSl 1 (s.get 82) (s.get 90)⟩,⟨some 92, some (81, true), .v fun s => loadA false 1 s.m (s.get 91)⟩,⟨some 93, some (81, true), .v fun s => fieldA 0 (s.get 1)⟩,⟨some 94, some (81, true), .v fun s => loadF false 1 (s.get 93)⟩,⟨some 95, some (81, true), .v fun s => some (s.get 9)⟩,⟨some 96, some (81, true), .v fun s => idxSl 1 (s.get 94) (s.get 95)⟩,⟨some 97, some (81, true), .v fun s => loadF false 1 (s.get 96)⟩,⟨some 98, some (81, true), .v fun s => some (s.get 10)⟩,⟨some 99, some (81, true), .v fun s => idxSl 1 (s.get 97) (s.get 98)⟩,⟨some 100, some (81, true), .v fun s => loadF false 1 (s.get 99)⟩,⟨some 101, some (81, true), .v fun s => idxSl 1 (s.get 92) (s.get 100)⟩,⟨some 102, some (81, true), .v fun s => loadA false 1 s.m (s.get 101)⟩,qF 103 fun s => pickA (s.get 81) (s.get 102) (.bool false)] K s := (den_regD hf r25_draw K s).trans (by kernel_rfl)
theorem i6_eq : den prog ann 56 (.code i6 :: K) s = ifV prog ann 56 103 i6t i6e K s (s.get 103) := den_if hf (by kernel_rfl) K s
theorem i6t_eq : den prog ann 56 (.code i6t :: K) s = den prog ann 56 (.code r26 :: K) s := den_flat hf (l := [r26]) (by kernel_rfl) K s
theorem r26_eq : den prog ann 56 (.code r26 :: K) s = mreg prog ann 56 none [] none [] [qA 104 (loadF false 1) 4,qC 105 8,qB 106 (idxSl 1) 104 105,qF 107 fun s => loadA false 1 s.m (s.get 106),qC 108 9,qB 109 (idxSl 1) 107 108,⟨none, none, .w false none fun s => stA false 1 s.m (s.get 109) (.bool true)⟩,qF 7 fun s => some (.bool true)] K s := (den_reg hf _ K s).trans (by kernel_rfl)
theorem i6e_eq : den prog ann 56 (.code i6e :: K) s = den prog ann 56 (K) s := den_flat hf (l := []) (by kernel_rfl) K s
theorem r27_eq : den prog ann 56 (.code r27 :: K) s = mreg prog ann 56 (some [1, 2, 3, 4, 7, 8, 9, 56, 57, 60, 61, 69, 70]) [] none [] [qF 110 fun s => binA prog .add 3 (s.get 70) (.int .i64 1),qC 70 110] K s := (den_reg hf _ K s).trans (by kernel_rfl)
theorem r28_eq : den prog ann 56 (.code r28 :: K) s = mreg prog ann 56 (some [1, 2, 3, 4, 7, 8, 56, 57, 60, 61]) [] none [] [qF 111 fun s => binA prog .add 3 (s.get 61) (.int .i64 1),qC 61 111] K s := (den_reg hf _ K s).trans (by kernel_rfl)
theorem r29_eq : den prog ann 56 (.code r29 :: K) s = mreg prog ann 56 (some [1, 2, 3, 4, 7, 56, 57]) [] none [] [qF 112 fun s => binA prog .add 3 (s.get 57) (.int .i64 1),qC 57 112] K s := (den_reg hf _ K s).trans (by kernel_rfl)
theorem r30_eq : den prog ann 56 (.code r30 :: K) s = mreg prog ann 56 (some [1, 2, 4]) [] none [] [⟨some 11, none, .w false none fun s => newPtr s.m [.nils, .nils]⟩] K s := (den_reg hf _ K s).trans (by kernel_rfl)
theorem r31_eq : den prog ann 56 (.code r31 :: K) s = mreg prog ann 56 none [] none [] [⟨some 113, none, .w false none fun s => bslM s.m 1 (bslA 1 1 [.int .i64 0] [(0, (.int .i64 0))])⟩,⟨some 12, none, .w false none fun s => newPtr s.m [.nils]⟩,⟨none, none, .w false none fun s => stA false 1 s.m (s.get 12) (s.get 113)⟩] K s := (den_reg hf _ K s).trans (by kernel_rfl)
theorem r32_eq : den prog ann 56 (.code r32 :: K) s = mreg prog ann 56 none [] none [] [qF 114 fun s => some (.fn 80 [] [(s.get 12), (s.get 4)]),qC 13 114] K s := (den_reg hf _ K s).trans (by kernel_rfl)
theorem r33_eq : den prog ann 56 (.code r33 :: K) s = mreg prog ann 56 none [] none [] [qF 14 fun s => some (.int .i64 0)] K s := (den_reg hf _ K s).trans (by kernel_rfl)
theorem k12_eq (K : List Item) (t : List (Nat × AV)) (m : Mem) : den prog ann 56 (.code k12 :: K) ⟨t, 161, m⟩ = L12 (get t 1) (get t 2) (get t 11) (get t 12) (get t 13) (get t 14) m K := den_loop_enter hf (b := l12) (id := 34) (l := [1, 2, 11, 12, 13, 14]) (by kernel_rfl) (by kernel_rfl) (by kernel_rfl) K _
theorem l12_eq (K : List Item) (t : List (Nat × AV)) (m : Mem) : den prog ann 56 (.inLoop l12 :: .inBlock 12 :: K) ⟨t, 161, m⟩ = L12 (get t 1) (get t 2) (get t 11) (get t 12) (get t 13) (get t 14) m K := den_loop_again hf (id := 34) (l := [1, 2, 11, 12, 13, 14]) (by kernel_rfl) (by kernel_rfl) (.inBlock 12 :: K) _
theorem L12_eq (x1 x2 x11 x12 x13 x14 : AV) (m : Mem) (K : List Item) : L12 x1 x2 x11 x12 x13 x14 m K = den prog ann 56 (.code r34 :: .code i7 :: .code k13 :: .code r35 :: .inLoop l12 :: .inBlock 12 :: K) ⟨[(1, x1), (2, x2), (11, x11), (12, x12), (13, x13), (14, x14)], 161, m⟩ := den_flat hf (l := [r34, i7, k13, r35]) (by kernel_rfl) _ _
theorem r34_eq : den prog ann 56 (.code r34 :: K) s = mreg prog ann 56 (some [1, 2, 11, 12, 13, 14]) [] none [] [qC 115 14,qF 116 fun s => loadA false 1 s.m (s.get 12),qA 117 lenSl 116,qB 118 (binA prog .lss 3) 115 117] K s := (den_reg hf _ K s).trans (by kernel_rfl)
theorem i7_eq : den prog ann 56 (.code i7 :: K) s = ifV prog ann 56 118 i7t i7e K s (s.get 118) := den_if hf (by kernel_rfl) K s
theorem i7t_eq : den prog ann 56 (.code i7t :: K) s = den prog ann 56 (K) s := den_flat hf (l := []) (by kernel_rfl) K s
theorem i7e_eq : den prog ann 56 (.code i7e :: K) s = den prog ann 56 (.code (.exit 12) :: K) s := den_flat hf (l := [(.exit 12)]) (by kernel_rfl) K s
theorem k13_eq : den prog ann 56 (.code k13 :: K) s = den prog ann 56 (.code r36 :: .code r37 :: .code k14 :: .code r42 :: .inBlock 13 :: K) s := den_blk hf (b := blkOf k13) (l := [r36, r37, k14, r42]) (by kernel_rfl) (by kernel_rfl) K s
theorem r36_eq : den prog ann 56 (.code r36 :: K) s = mreg prog ann 56 none [] none [] [qF 15 fun s => some (.nils)] K s := (den_reg hf _ K s).trans (by kernel_rfl)
theorem r37_draw : drawOk (fun g => (ann g).pure) (modeOf (ann 56) (idOf r37)) (frzOf (ann 56) (idOf r37)) (opsOf r37) = true := drawOk_of (an := [0, 1, 0, 0, 12, 28, 63, 127, 255, 0]) (by kernel_rfl) (by kernel_rfl)
theorem r37_eq : den prog ann 56 (.code r37 :: K) s = mreg prog ann 56 none [] (some 10) [] [qA 121 (fieldA 0) 1,qA 122 (loadF false 1) 121,qF 123 fun s => loadA false 1 s.m (s.get 12),qC 124 14,qB 125 (idxSl 1) 123 124,qF 126 fun s => loadA false 1 s.m (s.get 125),qB 127 (idxSl 1) 122 126,qA 128 (loadF false 1) 127,qA 129 lenSl 128,qF 130 fun s => some (.int .i64 0)] K s := (den_regD hf r37_draw K s).trans (by kernel_rfl)
theorem k14_eq (K : List Item) (t : List (Nat × AV)) (m : Mem) : den prog ann 56 (.code k14 :: K) ⟨t, 161, m⟩ = L14 (get t 1) (get t 2) (get t 11) (get t 12) (get t 13) (get t 14) (get t 15) (get t 128) (get t 129) (get t 130) m K := den_loop_enter hf (b := l14) (id := 38) (l := [1, 2, 11, 12, 13, 14, 15, 128, 129, 130]) (by kernel_rfl) (by kernel_rfl) (by kernel_rfl) K _
theorem l14_eq (K : List Item) (t : List (Nat × AV)) (m : Mem) : den prog ann 56 (.inLoop l14 :: .inBlock 14 :: K) ⟨t, 161, m⟩ = L14 (get t 1) (get t 2) (get t 11) (get t 12) (get t 13) (get t 14) (get t 15) (get t 128) (get t 129) (get t 130) m K := den_loop_again hf (id := 38) (l := [1, 2, 11, 12, 13, 14, 15, 128, 129, 130]) (by kernel_rfl) (by kernel_rfl) (.inBlock 14 :: K) _
theorem L14_eq (x1 x2 x11 x12 x13 x14 x15 x128 x129 x130 : AV) (m : Mem) (K : List Item) : L14 x1 x2 x11 x12 x13 x14 x15 x128 x129 x130 m K = den prog ann 56 (.code r38 :: .code i8 :: .code k15 :: .code r41 :: .inLoop l14 :: .inBlock 14 :: K) ⟨[(1, x1), (2, x2), (11, x11), (12, x12), (13, x13), (14, x14), (15, x15), (128, x128), (129, x129), (130, x130)], 161, m⟩ := den_flat hf (l := [r38, i8, k15, r41]) (by kernel_rfl) _ _
theorem r38_eq : den prog ann 56 (.code r38 :: K) s = mreg prog ann 56 (some [1, 2, 11, 12, 13, 14, 15, 128, 129, 130]) [] none [] [qB 131 (binA prog .lss 3) 130 129] K s := (den_reg hf _ K s).trans (by kernel_rfl)
theorem i8_eq : den prog ann 56 (.code i8 :: K) s = ifV prog ann 56 131 i8t i8e K s (s.get 131) := den_if hf (by kernel_rfl) K s
theorem i8t_eq : den prog ann 56 (.code i8t :: K) s = den prog ann 56 (K) s := den_flat hf (l := []) (by kernel_rfl) K s
theorem i8e_eq : den prog ann 56 (.code i8e :: K) s = den prog ann 56 (.code (.exit 14) :: K) s := den_flat hf (l := [(.exit 14)]) (by kernel_rfl) K s
theorem k15_eq : den prog ann 56 (.code k15 :: K) s = den prog ann 56 (.code r39 :: .code r40 :: .inBlock 15 :: K) s := den_blk hf (b := blkOf k15) (l := [r39, r40]) (by kernel_rfl) (by kernel_rfl) K s
theorem r39_eq : den prog ann 56 (.code r39 :: K) s = mreg prog ann 56 none [] none [] [qB 132 (idxSl 1) 128 130,qA 133 (loadF false 1) 132,qC 17 133] K s := (den_reg hf _ K s).trans (by kernel_rfl)
theorem r40_eq : den prog ann 56 (.code r40 :: K) s = mreg prog ann 56 none [] none [] [qC 134 15,qC 135 13,qC 136 17,⟨some 137, none, .c 0 (fun s => (s.get 135)) fun s => [(s.get 136)]⟩,qF 138 fun s => bslF 1 (bslA 1 1 [.int .i64 0] [(0, (s.get 137))]),⟨some 139, none, .w false none fun s => appendA 1 8 s.m (s.get 134) (s.get 138)⟩,qC 15 139] K s := (den_reg hf _ K s).trans (by kernel_rfl)
theorem r41_eq : den prog ann 56 (.code r41 :: K) s = mreg prog ann 56 (some [1, 2, 11, 12, 13, 14, 15, 128, 129, 130]) [] none [] [qF 140 fun s => binA prog .add 3 (s.get 130) (.int .i64 1),qC 130 140] K s := (den_reg hf _ K s).trans (by kernel_rfl)
theorem r42_draw : drawOk (fun g => (ann g).pure) (modeOf (ann 56) (idOf r42)) (frzOf (ann 56) (idOf r42)) (opsOf r42) = true := drawOk_of (an := [0, 1, 0, 4, 15, 0, 32, 0, 128, 0, 0, 1536, 3584, 8064, 16256, 32640, 65535, 127, 262143, 524287, 1048575]) (by kernel_rfl) (by kernel_rfl)
theorem r42_eq : den prog ann 56 (.code r42 :: K) s = mreg prog ann 56 (some [1, 2, 11, 12, 13, 14, 15]) [15] (some 21) [3142146, 2000144, 3142012, 3142152] [qA 141 (fieldA 0) 11,qF 142 fun s => loadA false 1 s.m (s.get 141),qC 143 15,qF 144 fun s => bslF 1 (bslA 1 1 [.nils] [(0, (s.get 143))]),⟨some 145, none, .w false (some 4) fun s => appendA 1 24 s.m (s.get 142) (s.get 144)⟩,qA 146 (fieldA 1) 11,qF 147 fun s => loadA false 1 s.m (s.get 146),qA 148 (fieldA 1) 1,qA 149 (loadF false 1) 148,qF 150 fun s => loadA false 1 s.m (s.get 12),qC 151 14,qB 152 (idxSl 1) 150 151,qF 153 fun s => loadA false 1 s.m (s.get 152),qB 154 (idxSl 1) 149 153,qA 155 (loadF false 1) 154,qF 156 fun s => bslF 1 (bslA 1 1 [.bool false] [(0, (s.get 155))]),⟨some 157, none, .w false (some 16) fun s => appendA 1 1 s.m (s.get 147) (s.get 156)⟩,qA 158 (fieldA 0) 11,⟨none, none, .w false (some 18) fun s => stA false 1 s.m (s.get 158) (s.get 145)⟩,qA 159 (fieldA 1) 11,⟨none, none, .w false (some 20) fun s => stA false 1 s.m (s.get 159) (s.get 157)⟩] K s := (den_regD hf r42_draw K s).trans (by kernel_rfl)
theorem r35_eq : den prog ann 56 (.code r35 :: K) s = mreg prog ann 56 (some [1, 2, 11, 12, 13, 14]) [] none [] [qC 119 14,qF 120 fun s => binA prog .add 3 (s.get 119) (.int .i64 1),qC 14 120] K s := (den_reg hf _ K s).trans (by kernel_rfl)
theorem r43_eq : den prog ann 56 (.code r43 :: K) s = mreg prog ann 56 (some [2, 11]) [] none [] [qF 160 fun s => loadA true 2 s.m (s.get 11),⟨none, none, .w false none fun s => stA true 2 s.m (s.get 2) (s.get 160)⟩] K s := (den_reg hf _ K s).trans (by kernel_rfl)
theorem ret_eq : den prog ann 56 (.code .ret :: K) s = finM true [fun s => loadA true 2 s.m (s.get 2)] s := (den_ret hf K s).trans (by kernel_rfl)
theorem nil_eq (s : St) : den prog ann 56 [] s = finM true [fun s => loadA true 2 s.m (s.get 2)] s := (den_nil hf s).trans (by kernel_rfl)
theorem inBlock_eq (id : Nat) (K : List Item) (s : St) : den prog ann 56 (.inBlock id :: K) s = den prog ann 56 K s := den_inBlock hf id K s
theorem exit_eq (id : Nat) (K : List Item) (s : St) : den prog ann 56 (.code (.exit id) :: K) s = exitV prog ann 56 (exitTo id K) s := den_exitV hf id K s
theorem call_eq (v0 : AV) (m : Mem) (h : closedL [v0] = true) : denC prog ann 56 [v0] m = (den prog ann 56 [.code b] ⟨[(0, v0)], 161, Mem.empty⟩).bind fun r => some (r.1, m) := (denC_pure hf (b := b) (by kernel_rfl) (by kernel_rfl) (by kernel_rfl) h m).trans (by kernel_rfl)
theorem pure_eq : (ann 56).pure = true := by kernel_rfl
attribute [simp] b_eq r0_eq r1_eq r2_eq r3_eq k0_eq l0_eq r4_eq i0_eq i0t_eq i0e_eq k1_eq r5_eq r6_eq r7_eq k2_eq l2_eq r8_eq i1_eq i1t_eq i1e_eq k3_eq r9_eq r10_eq r11_eq r12_eq r13_eq k4_eq l4_eq r14_eq i2_eq i2t_eq i2e_eq k5_eq r15_eq r16_eq k6_eq l6_eq r17_eq i3_eq i3t_eq i3e_eq k7_eq r18_eq r19_eq k8_eq l8_eq r20_eq i4_eq i4t_eq i4e_eq k9_eq r21_eq r22_eq k10_eq l10_eq r23_eq i5_eq i5t_eq i5e_eq k11_eq r24_eq r25_eq i6_eq i6t_eq r26_eq i6e_eq r27_eq r28_eq r29_eq r30_eq r31_eq r32_eq r33_eq k12_eq l12_eq r34_eq i7_eq i7t_eq i7e_eq k13_eq r36_eq r37_eq k14_eq l14_eq r38_eq i8_eq i8t_eq i8e_eq k15_eq r39_eq r40_eq r41_eq r42_eq r35_eq r43_eq ret_eq nil_eq inBlock_eq exit_eq pure_eq
end
end brand_smallest
end Go.Proofs.Ythnpflkpjimkfaa

/-
  THE STATES THAT WORDS REACH: the specification's list. Conditions: none.
-/
namespace Go.Proofs.Ythnpflkpjimkfaa
open Go.AM
open Go.Proofs.Try (prog)
set_option linter.all false
set_option maxRecDepth 100000
set_option maxHeartbeats 8000000
theorem Gl.deep {m : Mem} {v : AV} {id n : Nat} {xs : List AV} (g : Gl m v id 1 n xs) (d : Nat) (hd : ∀ x ∈ xs, AM.deep m.h d x = some x) : AM.deep m.h (d + 1) v = some (.fsl false n xs) := by
  obtain ⟨⟨pre, rfl, hm⟩, hn, hl⟩ := g
  have hn : xs.length = n := by omega
  have tk : xs.take n = xs := List.take_of_length_le (by omega)
  simp [AM.deep, hm, hn, tk, mapO_same xs hd]
structure Rc (m : Mem) (x4 x5 : AV) (i4 i5 : Nat) (S : List Nat × List (List UInt8)) : Prop where
  p : Gl m x4 i4 1 S.1.length (S.1.map encS)
  w : Gl m x5 i5 1 S.2.length (S.2.map .str)
  d1 : i4 ≠ i5
end Go.Proofs.Ythnpflkpjimkfaa

/-
  MATRICES IN MEMORY: a list of rows, each one an object. Conditions: none.
-/
namespace Go.Proofs.Ythnpflkpjimkfaa
open Go.AM
open Go.Proofs.Try (prog)
set_option linter.all false
set_option maxRecDepth 100000
set_option maxHeartbeats 4000000
def rid (ids : List Nat) (i : Nat) : Nat := ids.getD i 0
structure Bt (h : Nat → Option AObj) (d : Nat) (ids : List Nat) (D : MB) (n e : Nat) : Prop where
  o : h d = some (.cells (ids.map (fun r => AV.sl r 1 0 n n) ++ List.replicate e .nils))
  l : ids.length = D.length
  nd : ids.Nodup
  nd' : d ∉ ids
  r : ∀ i, i < D.length → h (rid ids i) = some (.cells (bls (brw D i)))
  rl : ∀ i, i < D.length → (brw D i).length = n
section
variable {h h' : Nat → Option AObj} {d : Nat} {ids : List Nat} {D : MB} {n e : Nat}
theorem rid_mem {i : Nat} (hi : i < ids.length) : rid ids i ∈ ids := by
  simp [rid, List.getD_eq_getElem?_getD, hi]
theorem Bt.rm (b : Bt h d ids D n e) {i : Nat} (hi : i < D.length) : rid ids i ∈ ids := rid_mem (by rw [b.l]; exact hi)
theorem Bt.fr (b : Bt h d ids D n e) (e1 : h' d = h d) (e2 : ∀ x ∈ ids, h' x = h x) : Bt h' d ids D n e :=
  ⟨by rw [e1, b.o], b.l, b.nd, b.nd', fun i hi => by rw [e2 _ (b.rm hi), b.r i hi], b.rl⟩
theorem Bt.ld (b : Bt h d ids D n e) {i : Nat} (hi : i < D.length) (nx : Nat) : loadA false 1 ⟨h, nx⟩ (.ptr d i (D.length + e)) = some (.sl (rid ids i) 1 0 n n) := by
  have hi' : i < ids.length := by rw [b.l]; exact hi
  rw [loadA_ptr]
  show loadO false 1 i (D.length + e) (h d) = _
  rw [b.o, loadO_cells]
  have e1 : (ids.map (fun r => AV.sl r 1 0 n n) ++ List.replicate e AV.nils).length == D.length + e := by simp [b.l]
  rw [e1]
  simp [rid, hi', List.getElem?_append_left]
theorem Bt.get (b : Bt h d ids D n e) {i j : Nat} (hi : i < D.length) (hj : j < n) (nx : Nat) : loadA false 1 ⟨h, nx⟩ (.ptr (rid ids i) j n) = some (.bool (mth D i j)) := by
  have hl := b.rl i hi
  rw [loadA_ptr]
  show loadO false 1 j n (h (rid ids i)) = _
  rw [b.r i hi, loadO_cells]
  have e1 : (bls (brw D i)).length == n := by simp [hl]
  rw [e1]
  have hj' : j < (brw D i).length := by omega
  simp [bls, mth, bnth, List.getD_eq_getElem?_getD, hj']
theorem rid_inj (b : Bt h d ids D n e) {i i' : Nat} (hi : i < D.length) (hi' : i' < D.length) (q : rid ids i = rid ids i') : i = i' := by
  have h1 : i < ids.length := by rw [b.l]; exact hi
  have h2 : i' < ids.length := by rw [b.l]; exact hi'
  simp only [rid, List.getD_eq_getElem?_getD, List.getElem?_eq_getElem h1, List.getElem?_eq_getElem h2, Option.getD_some] at q
  have pw := List.pairwise_iff_getElem.1 b.nd
  rcases Nat.lt_trichotomy i i' with c | c | c
  · exact absurd q (pw i i' h1 h2 c)
  · exact c
  · exact absurd q.symm (pw i' i h2 h1 c)
theorem bls_set (l : List Bool) (j : Nat) (x : Bool) : (bls l).set j (.bool x) = bls (l.set j x) := by simp [bls, List.map_set]
theorem Bt.put (b : Bt h d ids D n e) {i j : Nat} (hi : i < D.length) (hj : j < n) (x : Bool) (nx : Nat) :
    stA false 1 ⟨h, nx⟩ (.ptr (rid ids i) j n) (.bool x) = some (.tup [], ⟨upd h (rid ids i) (some (.cells (bls ((brw D i).set j x)))), nx⟩) ∧ Bt (upd h (rid ids i) (some (.cells (bls ((brw D i).set j x))))) d ids (setM D i j x) n e := by
  have hl := b.rl i hi
  have hm := b.rm hi
  refine ⟨?_, ?_, ?_, b.nd, b.nd', ?_, ?_⟩
  · rw [stA_ptr]
    show stO false 1 ⟨h, nx⟩ (rid ids i) j n (.bool x) (h (rid ids i)) = _
    rw [b.r i hi, stO_cells0]
    have e1 : (bls (brw D i)).length == n := by simp [hl]
    rw [e1, bls_set]
    have : Nat.blt j n = true := by simpa [Nat.blt_eq] using hj
    simp [hj, AV.one, Mem.set]
  · rw [updNe (fun q => b.nd' (by rw [q]; exact hm)), b.o]
  · simp [setM, b.l]
  · intro i' hi'
    have hi' : i' < D.length := by simpa [setM] using hi'
    rw [setM, brw_set hi]
    by_cases q : i = i'
    · subst q; simp
    · rw [if_neg q, updNe (fun q' => q (rid_inj b hi hi' q'.symm)), b.r i' hi']
  · intro i' hi'
    have hi' : i' < D.length := by simpa [setM] using hi'
    rw [setM, brw_set hi]
    split
    · rw [List.length_set]; exact hl
    · exact b.rl i' hi'
theorem Bt.add (b : Bt h d ids D n (e + 1)) {x : Nat} {row : List Bool} (hx : x ≠ d) (hx' : x ∉ ids) (hr : row.length = n) (e1 : h' d = some (.cells ((ids.map (fun r => AV.sl r 1 0 n n) ++ List.replicate (e + 1) AV.nils).set D.length (.sl x 1 0 n n)))) (e2 : h' x = some (.cells (bls row))) (e3 : ∀ y ∈ ids, h' y = h y) : Bt h' d (ids ++ [x]) (D ++ [row]) n e := by
  have hl := b.l
  refine ⟨?_, by simp [hl], ?_, ?_, ?_, ?_⟩
  · rw [e1]
    have : (ids.map (fun r => AV.sl r 1 0 n n)).length = D.length := by simp [hl]
    rw [List.set_append_right _ _ (by omega), this, Nat.sub_self, List.replicate_succ]
    simp
  · rw [List.nodup_append]
    refine ⟨b.nd, by simp, ?_⟩
    intro a ha c hc
    simp at hc
    subst hc
    exact fun q => hx' (q ▸ ha)
  · intro q
    rcases List.mem_append.1 q with q | q
    · exact b.nd' q
    · simp at q; exact hx q.symm
  · intro i hi
    simp at hi
    by_cases q : i < D.length
    · have q1 : rid (ids ++ [x]) i = rid ids i := by simp [rid, List.getD_eq_getElem?_getD, List.getElem?_append_left (show i < ids.length by omega)]
      have q2 : brw (D ++ [row]) i = brw D i := by simp [brw, List.getD_eq_getElem?_getD, List.getElem?_append_left q]
      rw [q1, q2, e3 _ (b.rm q), b.r i q]
    · have : i = D.length := by omega
      subst this
      have q1 : rid (ids ++ [x]) D.length = x := by simp [rid, List.getD_eq_getElem?_getD, ← hl]
      have q2 : brw (D ++ [row]) D.length = row := by simp [brw, List.getD_eq_getElem?_getD]
      rw [q1, q2, e2]
  · intro i hi
    simp at hi
    by_cases q : i < D.length
    · have q2 : brw (D ++ [row]) i = brw D i := by simp [brw, List.getD_eq_getElem?_getD, List.getElem?_append_left q]
      rw [q2]; exact b.rl i q
    · have : i = D.length := by omega
      subst this
      have q2 : brw (D ++ [row]) D.length = row := by simp [brw, List.getD_eq_getElem?_getD]
      rw [q2]; exact hr
end
end Go.Proofs.Ythnpflkpjimkfaa

/-
  ALIKE STATES: the specification's rounds. Conditions: none.
-/
namespace Go.Proofs.Ythnpflkpjimkfaa
open Go.AM
open Go.Proofs.Try (prog)
set_option linter.all false
set_option maxRecDepth 100000
set_option maxHeartbeats 8000000
def mbV (n : Nat) (L : MB) : AV := .fsl false L.length (L.map fun r => .fsl false n (bls r))
theorem bls_deep (h : Nat → Option AObj) (d : Nat) (l : List Bool) : mapO (AM.deep h (d + 1)) (bls l) = some (bls l) := mapO_same _ (fun x hx => by
  simp only [bls, List.mem_map] at hx
  obtain ⟨b, _, rfl⟩ := hx
  rfl)
theorem Bt.deep {h : Nat → Option AObj} {d : Nat} {ids : List Nat} {D : MB} {n : Nat} (B : Bt h d ids D n 0) (e : Nat) : AM.deep h (e + 3) (.sl d 1 0 D.length D.length) = some (mbV n D) := by
  have h1 : mapO (AM.deep h (e + 2)) (ids.map fun r => AV.sl r 1 0 n n) = some (D.map fun r => .fsl false n (bls r)) := by
    have key : ∀ (l : List Nat) (L : MB), l.length = L.length → (∀ i, i < L.length → h (rid l i) = some (.cells (bls (brw L i)))) → (∀ i, i < L.length → (brw L i).length = n) → mapO (AM.deep h (e + 2)) (l.map fun r => AV.sl r 1 0 n n) = some (L.map fun r => .fsl false n (bls r)) := by
      intro l
      induction l with
      | nil => intro L hl _ _; cases L with
        | nil => rfl
        | cons _ _ => simp at hl
      | cons x l ih =>
        intro L hl h1 h2
        cases L with
        | nil => simp at hl
        | cons row L =>
          have a1 := h1 0 (by simp)
          have a2 := h2 0 (by simp)
          simp [rid, brw] at a1 a2
          have ih := ih L (by simpa using hl) (fun i hi => h1 (i + 1) (by simpa using hi)) (fun i hi => h2 (i + 1) (by simpa using hi))
          simp only [List.map_cons, mapO, ih]
          have tk : (bls row).take n = bls row := List.take_of_length_le (by simp [a2])
          simp [AM.deep, a1, a2, bls_deep, tk, mapO_same]
    exact key ids D B.l B.r B.rl
  have hl : (ids.map fun r => AV.sl r 1 0 n n).length = D.length := by simp [B.l]
  have ho := B.o
  simp only [List.replicate_zero, List.append_nil] at ho
  have tk : (ids.map fun r => AV.sl r 1 0 n n).take D.length = ids.map fun r => AV.sl r 1 0 n n := List.take_of_length_le (by omega)
  have hi := B.l
  simp only [AM.deep, ho]
  simp [hi, tk, h1, mbV, List.take_of_length_le]
end Go.Proofs.Ythnpflkpjimkfaa

/-
  ALIKE STATES: the specification's first answers, and what it returns. Conditions: none.
-/
namespace Go.Proofs.Ythnpflkpjimkfaa
open Go.AM
open Go.Proofs.Try (prog)
set_option linter.all false
set_option maxRecDepth 100000
set_option maxHeartbeats 8000000
end Go.Proofs.Ythnpflkpjimkfaa

/-
  THE SMALLEST FORM: the specification numbers states. Conditions: none.
-/
namespace Go.Proofs.Ythnpflkpjimkfaa
open Go.AM
open Go.Proofs.Try (prog)
set_option linter.all false
set_option maxRecDepth 100000
set_option maxHeartbeats 8000000
section
variable {al : Nat → Nat → Bool} {nxt : Nat → Nat → Nat} {k n : Nat}
variable {β : Type} {ext : β → Nat → β}
end
end Go.Proofs.Ythnpflkpjimkfaa

/-
  THE SMALLEST FORM: the specification's numbers in memory. Conditions: none.
-/
namespace Go.Proofs.Ythnpflkpjimkfaa
open Go.AM
open Go.Proofs.Try (prog)
set_option linter.all false
set_option maxRecDepth 100000
set_option maxHeartbeats 8000000
end Go.Proofs.Ythnpflkpjimkfaa

/-
  THE SMALLEST FORM: the program marks states that differ. Conditions: none.
-/
namespace Go.Proofs.Ythnpflkpjimkfaa
open Go.AM
open Go.Proofs.Try (prog)
set_option linter.all false
set_option maxRecDepth 100000
set_option maxHeartbeats 8000000
noncomputable def K4 : List Item := [.code brand_smallest.r30, .code brand_smallest.r31, .code brand_smallest.r32, .code brand_smallest.r33, .code brand_smallest.k12, .code brand_smallest.r43, .code .ret]
end Go.Proofs.Ythnpflkpjimkfaa

/-
  THE SMALLEST FORM: the program's first marks. Conditions: none.
-/
namespace Go.Proofs.Ythnpflkpjimkfaa
open Go.AM
open Go.Proofs.Try (prog)
set_option linter.all false
set_option maxRecDepth 100000
set_option maxHeartbeats 8000000
noncomputable def K0 : List Item := .code brand_smallest.r13 :: .code brand_smallest.k4 :: K4
noncomputable def K2 : List Item := .inBlock 1 :: .code brand_smallest.r12 :: .inLoop brand_smallest.l0 :: .inBlock 0 :: K0
end Go.Proofs.Ythnpflkpjimkfaa

/-
  THE SMALLEST FORM: the number of a state (a function's value that keeps a list). Conditions: none.
-/
namespace Go.Proofs.Ythnpflkpjimkfaa
open Go.AM
open Go.Proofs.Try (prog)
set_option linter.all false
set_option maxRecDepth 100000
set_option maxHeartbeats 8000000
section
variable {h : Nat → Option AObj} {d : Nat} {ids : List Nat} {D : MB} {n : Nat} {al : Nat → Nat → Bool}
structure Sx (h : Nat → Option AObj) (b S : Nat) (st : List Nat) : Prop where
  hb : h b = some (.cells [.sl S 1 0 st.length st.length])
  hs : h S = some (.cells (st.map encS))
  ne : b ≠ S
end
end Go.Proofs.Ythnpflkpjimkfaa

/-
  THE SMALLEST FORM: the program writes its rows. Conditions: none.
-/
namespace Go.Proofs.Ythnpflkpjimkfaa
open Go.AM
open Go.Proofs.Try (prog)
set_option linter.all false
set_option maxRecDepth 100000
set_option maxHeartbeats 8000000
end Go.Proofs.Ythnpflkpjimkfaa

/-
  THE SMALLEST FORM: the program writes it. Conditions: none.
-/
namespace Go.Proofs.Ythnpflkpjimkfaa
open Go.AM
open Go.Proofs.Try (prog)
set_option linter.all false
set_option maxRecDepth 100000
set_option maxHeartbeats 8000000
structure Ox (h : Nat → Option AObj) (o z0 : Nat) (a g : AV) (R G : List AV) (lo hi : Nat) : Prop where
  o : h o = some (.cells [a, g])
  z : h z0 = some (.cells [.nils, .nils])
  na : Nl h a R lo hi
  ng : Nl h g G lo hi
  dj : ∀ y, objId a = some y → objId g ≠ some y
def ap (x y : Option Nat) : Bool := match x, y with
  | some a, some c => !(a == c)
  | _, _ => true
theorem ap_eq (s : St) (p q : Nat) : apart2 s p q = ap (objId (s.get p)) (objId (s.get q)) := by
  unfold apart2 ap
  cases objId (s.get p) <;> cases objId (s.get q) <;> rfl
theorem ap_lt {x : Option Nat} {z lo : Nat} (h : ∀ y, x = some y → lo ≤ y) (hz : z < lo) : ap x (some z) = true := by
  cases x with
  | none => rfl
  | some y =>
    have : (y == z) = false := beq_eq_false_iff_ne.2 (by have := h y rfl; omega)
    simp [ap, this]
@[simp] theorem objId_ptr (id off top : Nat) : objId (.ptr id off top) = some id := rfl
@[simp] theorem objId_sl (id es off n top : Nat) : objId (.sl id es off n top) = some id := rfl
end Go.Proofs.Ythnpflkpjimkfaa

/-
  THE SMALLEST FORM: what the program returns. Conditions: none.
-/
namespace Go.Proofs.Ythnpflkpjimkfaa
open Go.AM
open Go.Proofs.Try (prog)
set_option linter.all false
set_option maxRecDepth 100000
set_option maxHeartbeats 8000000
end Go.Proofs.Ythnpflkpjimkfaa

/-
  THE SMALLEST FORM: what the specification returns. Conditions: none.
-/
namespace Go.Proofs.Ythnpflkpjimkfaa
open Go.AM
open Go.Proofs.Try (prog)
set_option linter.all false
set_option maxRecDepth 100000
set_option maxHeartbeats 8000000
end Go.Proofs.Ythnpflkpjimkfaa

/-
  THE SAME BRAND: the test answers yes for the same; the smallest form is a brand. Conditions: none.
-/
namespace Go.Proofs.Ythnpflkpjimkfaa
open Go.AM
open Go.Proofs.Try (prog)
set_option linter.all false
set_option maxRecDepth 100000
set_option maxHeartbeats 8000000
end Go.Proofs.Ythnpflkpjimkfaa

/-
  BODIES OF FUNCTIONS OF THE PROGRAM AS SMALL OPERATIONS (written by gen.py; checked by the kernel against the program). Conditions: none.
-/
namespace Go.Proofs.Ythnpflkpjimkfaa
open Go.AM
open Go.Proofs.Try (prog)
set_option maxRecDepth 100000
set_option linter.all false
end Go.Proofs.Ythnpflkpjimkfaa

/-
  WHAT WORDS DO: moves of states, as keys. Conditions: none.
-/
namespace Go.Proofs.Ythnpflkpjimkfaa
open Go.AM
open Go.Proofs.Try (prog)
set_option linter.all false
set_option maxRecDepth 100000
set_option maxHeartbeats 8000000
theorem IsRows.deep {v : AV} {ps : List AV} {rows : List (List Int)} (h : IsRows v ps rows) (hp : Nat → Option AObj) (d : Nat) : AM.deep hp (d + 1) v = some v := by rcases h.val with ⟨rfl, _⟩ | ⟨_, rfl⟩ <;> rfl
def mvF (n : Nat) (f : Nat → Nat) (c : Nat) : List Nat := (List.range 6).map fun s => if s < c then f s else 0
def mv6 (rows : List (List Int)) (w : List UInt8) : List Nat := mvF rows.length (fun s => goL rows w s) rows.length
@[simp] theorem mv6_len (rows : List (List Int)) (w : List UInt8) : (mv6 rows w).length = 6 := by simp [mv6, mvF]
def nxM (rows : List (List Int)) (t : List Nat) (a : Nat) : List Nat := mvF rows.length (fun s => nx rows (t.getD s 0) a) rows.length
def encM (t : List Nat) : AV := .agg (t.map fun x => .int .i64 (x : Nat))
@[simp] theorem mvF_len (n : Nat) (f : Nat → Nat) (c : Nat) : (mvF n f c).length = 6 := by simp [mvF]
theorem mvF_at {n : Nat} {f : Nat → Nat} {c s : Nat} (h : s < 6) (hc : s < c) : (mvF n f c).getD s 0 = f s := by
  simp [mvF, List.getD_eq_getElem?_getD, h, hc]
theorem goL_snoc (rows : List (List Int)) (c : UInt8) : ∀ (w : List UInt8) (s : Nat), goL rows (w ++ [c]) s = nx rows (goL rows w s) (c.toNat - 97)
  | [], s => rfl
  | b :: w, s => by rw [List.cons_append, goL, goL_snoc rows c w, goL]
theorem ltr_sub {a : Nat} (h : a < 3) : (UInt8.ofNat (97 + a)).toNat - 97 = a := by
  have : a = 0 ∨ a = 1 ∨ a = 2 := by omega
  rcases this with rfl | rfl | rfl <;> rfl
theorem goL_ltr (rows : List (List Int)) (w : List UInt8) {a : Nat} (h : a < 3) (s : Nat) : goL rows (w ++ ltr a) s = nx rows (goL rows w s) a := by rw [ltr, goL_snoc, ltr_sub h]
theorem mv6_ltr (rows : List (List Int)) (n6 : rows.length ≤ 6) (w : List UInt8) {a : Nat} (h : a < 3) : mv6 rows (extL w a) = nxM rows (mv6 rows w) a := by
  rw [mv6, nxM, mvF, mvF]
  refine List.map_congr_left fun s hs => ?_
  have hs6 : s < 6 := by simpa using hs
  by_cases q : s < rows.length
  · rw [if_pos q, if_pos q, extL, goL_ltr rows w h, mv6, mvF_at hs6 q]
  · rw [if_neg q, if_neg q]
end Go.Proofs.Ythnpflkpjimkfaa

/-
  ALL ELEMENTS OF A MONOID: the law of the search, and the program's memory. Conditions: none.
-/
namespace Go.Proofs.Ythnpflkpjimkfaa
open Go.AM
open Go.Proofs.Try (prog)
set_option linter.all false
set_option maxRecDepth 100000
set_option maxHeartbeats 8000000
def okW (k : Nat) (w : List UInt8) : Prop := ∀ c ∈ w, 97 ≤ c.toNat ∧ c.toNat - 97 < k
theorem letF_iff (k : Nat) (s : List UInt8) : letF k s s.length 0 = true ↔ okW k s := by
  have hb : ∀ i (h : i < s.length), byt s i = s[i].toNat := fun i h => by simp [byt, h]
  simp only [letF, List.all_eq_true, List.mem_range'_1, letB, Bool.and_eq_true, decide_eq_true_eq, okW]
  constructor
  · intro h c hc
    obtain ⟨i, hi, rfl⟩ := List.getElem_of_mem hc
    have := h i ⟨by omega, by omega⟩
    rwa [hb i hi] at this
  · intro h i hi
    have hi' : i < s.length := by omega
    rw [hb i hi']
    exact h _ (List.getElem_mem hi')
theorem okW_ext {k a : Nat} {w : List UInt8} (h : okW k w) (ha : a < k) (hk : k ≤ 3) : okW k (extL w a) := by
  intro c hc
  rcases List.mem_append.1 hc with hc | hc
  · exact h c hc
  · simp [ltr] at hc
    subst hc
    have : a = 0 ∨ a = 1 ∨ a = 2 := by omega
    rcases this with rfl | rfl | rfl <;> exact ⟨by decide, by simpa using ha⟩
theorem okW_nil (k : Nat) : okW k [] := by simp [okW]
theorem okW_app {k : Nat} {u w : List UInt8} (h : okW k u) (g : okW k w) : okW k (u ++ w) := fun c hc => by
  rcases List.mem_append.1 hc with hc | hc
  · exact h c hc
  · exact g c hc
abbrev SM := List (List Nat) × List (List UInt8)
structure MOk (rows : List (List Int)) (k : Nat) (S : SM) : Prop where
  nd : S.1.Nodup
  eq : S.1 = S.2.map (mv6 rows)
  ok : ∀ w ∈ S.2, okW k w ∧ w.length ≤ S.2.length
  le : S.1.length ≤ 400
section
variable {rows : List (List Int)} {k : Nat} {S : SM}
theorem MOk.len (h : MOk rows k S) : S.1.length = S.2.length := by rw [h.eq]; simp
theorem MOk.at (h : MOk rows k S) {i : Nat} {x : List Nat} {w : List UInt8} (h1 : S.1[i]? = some x) (h2 : S.2[i]? = some w) : x = mv6 rows w := by
  rw [h.eq, List.getElem?_map, h2] at h1
  exact (Option.some.inj h1).symm
theorem MOk.add (h : MOk rows k S) (n6 : rows.length ≤ 6) (k3 : k ≤ 3) {w : List UInt8} {a : Nat} (hw : w ∈ S.2) (ha : a < k) (hn : nxM rows (mv6 rows w) a ∉ S.1) (hl : S.1.length ≠ 400) : MOk rows k (S.1 ++ [nxM rows (mv6 rows w) a], S.2 ++ [extL w a]) := by
  have hle := h.le
  have hlen := h.len
  refine ⟨?_, ?_, ?_, ?_⟩
  · rw [List.nodup_append]
    refine ⟨h.nd, by simp, ?_⟩
    intro x hx y hy
    simp at hy
    subst hy
    exact fun e => hn (e ▸ hx)
  · simp only [List.map_append, List.map_cons, List.map_nil]
    rw [← h.eq, mv6_ltr rows n6 w (by omega)]
  · intro u hu
    rcases List.mem_append.1 hu with hu | hu
    · have := h.ok u hu
      exact ⟨this.1, by simp; omega⟩
    · simp at hu
      subst hu
      have := h.ok w hw
      exact ⟨okW_ext this.1 ha k3, by simp [extL, ltr]; omega⟩
  · simp; omega
end
def isF : AV → Bool
  | .fsl .. => true
  | _ => false
def Nf (h : Nat → Option AObj) (v : AV) (xs : List AV) (lo hi : Nat) : Prop := v = .fsl true xs.length xs ∨ ∃ R, v = .sl R 1 0 xs.length xs.length ∧ h R = some (.cells xs) ∧ lo ≤ R ∧ R < hi
section
variable {h h' : Nat → Option AObj} {v : AV} {xs : List AV} {lo hi hi' : Nat}
theorem Nf.fr (n : Nf h v xs lo hi) (e : ∀ y, lo ≤ y → y < hi → objId v = some y → h' y = h y) (l : hi ≤ hi') : Nf h' v xs lo hi' := by
  rcases n with rfl | ⟨R, rfl, h1, h2, h3⟩
  · exact .inl rfl
  · exact .inr ⟨R, rfl, by rw [e R h2 h3 rfl, h1], h2, by omega⟩
theorem Nf.one (n : Nf h v xs lo hi) : v.one = true := by
  rcases n with rfl | ⟨R, rfl, h1, h2, h3⟩ <;> rfl
theorem Nf.oid (n : Nf h v xs lo hi) {y : Nat} (e : objId v = some y) : lo ≤ y ∧ y < hi := by
  rcases n with rfl | ⟨R, rfl, h1, h2, h3⟩
  · cases e
  · simp [objId] at e; omega
theorem Nf.len (n : Nf h v xs lo hi) : lenSl v = some (.int .i64 xs.length) := by
  rcases n with rfl | ⟨R, rfl, h1, h2, h3⟩ <;> rfl
theorem Nf.at (n : Nf h v xs lo hi) {i : Nat} (hi' : i < xs.length) : ∃ p, idxSl 1 v (.int .i64 i) = some p ∧ (∀ nx, loadA false 1 ⟨h, nx⟩ p = xs[i]?) ∧ objId p = objId v := by
  rcases n with rfl | ⟨R, rfl, h1, h2, h3⟩
  · exact ⟨.fptr (xs.drop i), by simp [hi'], fun nx => by simp [loadA, readN, read1, List.head?_drop], rfl⟩
  · exact ⟨.ptr R i xs.length, by simp [hi'], fun nx => by simp [h1], rfl⟩
theorem Nf.deep (n : Nf h v xs lo hi) (d : Nat) (hd : ∀ x ∈ xs, AM.deep h d x = some x) : AM.deep h (d + 1) v = some (.fsl (isF v) xs.length xs) := by
  rcases n with rfl | ⟨R, rfl, h1, h2, h3⟩
  · rfl
  · simp [AM.deep, h1, mapO_same xs hd, isF]
theorem Nf.app {nx by' : Nat} (n : Nf h v xs lo hi) (hh : hi ≤ nx) (hl : lo ≤ nx) (hr : room (xs.length + 1) by' = true) (y : AV) :
    ∃ v' h' nx', appT 1 by' ⟨h, nx⟩ v (some (1, [y])) = some (v', ⟨h', nx'⟩) ∧ Nf h' v' (xs ++ [y]) lo nx' ∧ nx ≤ nx' ∧ nx' ≤ nx + 1 ∧ (∀ z, objId v' = some z → objId v = some z ∨ z = nx) ∧ (∀ z, objId v' ≠ some z → h' z = h z) ∧ isF v' = false := by
  rcases n with rfl | ⟨R, rfl, h1, h2, h3⟩
  · refine ⟨.sl nx 1 0 (xs.length + 1) (xs.length + 1), upd h nx (some (.cells (xs ++ [y]))), nx + 1, ?_, .inr ⟨nx, by simp, by simp, hl, by omega⟩, by omega, by omega, fun z e => .inr (by simp [objId] at e; omega), fun z e => updNe (fun q => e (by rw [q]; rfl)), rfl⟩
    simp at hr
    simp [Mem.new, hr]
  · refine ⟨.sl R 1 0 (xs.length + 1) (xs.length + 1), upd h R (some (.cells (xs ++ [y]))), nx, ?_, .inr ⟨R, by simp, by simp, h2, by omega⟩, by omega, by omega, fun z e => .inl e, fun z e => updNe (fun q => e (by rw [q]; rfl)), rfl⟩
    simp at hr
    simp [h1, hr.1, hr.2]
end
end Go.Proofs.Ythnpflkpjimkfaa

/-
  ALL ELEMENTS OF A MONOID: the program's search. Conditions: none.
-/
namespace Go.Proofs.Ythnpflkpjimkfaa
open Go.AM
open Go.Proofs.Try (prog)
set_option linter.all false
set_option maxRecDepth 100000
set_option maxHeartbeats 8000000
def natV (x : Nat) : AV := .int .i64 (x : Nat)
structure Md (m : Mem) (M O : Nat) (nv gv wv : AV) (S : SM) (lo : Nat) : Prop where
  o : m.h M = some (.cells [nv, gv, wv, .map O])
  w : Nf m.h wv (S.2.map .str) lo m.nx
  p : Mp m O (S.1.map encM) ((List.range S.1.length).map natV)
  mo : M < lo ∧ O < lo ∧ M ≠ O
  x : isF wv = decide (S.2.length = 1)
end Go.Proofs.Ythnpflkpjimkfaa

/-
  ELEMENTS' NUMBERS: the program's Monoid, Element, Idempotents. Conditions: none.
-/
namespace Go.Proofs.Ythnpflkpjimkfaa
open Go.AM
open Go.Proofs.Try (prog)
set_option linter.all false
set_option maxRecDepth 100000
set_option maxHeartbeats 8000000
def numM (rows : List (List Int)) (S : SM) (w : List UInt8) : Nat := S.1.idxOf (mv6 rows w)
structure MW (rows : List (List Int)) (k : Nat) (S : SM) : Prop where
  ok : MOk rows k S
  pre : ∃ p q, S.1 = [mv6 rows []] ++ p ∧ S.2 = [[]] ++ q
  cl : ∀ x ∈ S.1, ∀ a, a < k → nxM rows x a ∈ S.1
section
variable {rows : List (List Int)} {k : Nat} {S : SM}
theorem chr_ltr {c : UInt8} (h : 97 ≤ c.toNat) : [c] = ltr (c.toNat - 97) := by
  rw [ltr, show 97 + (c.toNat - 97) = c.toNat by omega]
  simp
theorem MW.mem (h : MW rows k S) (n6 : rows.length ≤ 6) (k3 : k ≤ 3) : ∀ (w p : List UInt8), okW k w → mv6 rows p ∈ S.1 → mv6 rows (p ++ w) ∈ S.1
  | [], p, _, hp => by simpa using hp
  | c :: w, p, hw, hp => by
    have hc := hw c (by simp)
    have e : p ++ c :: w = (p ++ [c]) ++ w := by simp
    rw [e]
    refine MW.mem h n6 k3 w (p ++ [c]) (fun b hb => hw b (by simp [hb])) ?_
    rw [chr_ltr hc.1]
    have := mv6_ltr rows n6 p (a := c.toNat - 97) (by omega)
    rw [extL] at this
    rw [this]
    exact h.cl _ hp _ hc.2
theorem MW.all (h : MW rows k S) (n6 : rows.length ≤ 6) (k3 : k ≤ 3) {w : List UInt8} (hw : okW k w) : mv6 rows w ∈ S.1 := by
  have := h.mem n6 k3 w [] hw (by obtain ⟨p, _, e, _⟩ := h.pre; rw [e]; simp)
  simpa using this
theorem MW.lt (h : MW rows k S) (n6 : rows.length ≤ 6) (k3 : k ≤ 3) {w : List UInt8} (hw : okW k w) : numM rows S w < S.1.length := List.idxOf_lt_length_iff.2 (h.all n6 k3 hw)
theorem MW.at (h : MW rows k S) (n6 : rows.length ≤ 6) (k3 : k ≤ 3) {w : List UInt8} (hw : okW k w) : S.1[numM rows S w]? = some (mv6 rows w) := by
  have hl := h.lt n6 k3 hw
  rw [List.getElem?_eq_getElem hl]
  simp [numM]
theorem MW.pos (h : MW rows k S) : 0 < S.1.length := by obtain ⟨p, _, e, _⟩ := h.pre; rw [e]; simp
def wrd (S : SM) (i : Nat) : List UInt8 := S.2.getD i []
theorem MW.wok (h : MW rows k S) {i : Nat} (hi : i < S.1.length) : S.2[i]? = some (wrd S i) ∧ okW k (wrd S i) ∧ (wrd S i).length ≤ 400 ∧ S.1[i]? = some (mv6 rows (wrd S i)) := by
  have hi2 : i < S.2.length := by rw [← h.ok.len]; exact hi
  have e : S.2[i]? = some (wrd S i) := by simp [wrd, List.getD_eq_getElem?_getD, hi2]
  have hm := List.mem_of_getElem? e
  have := h.ok.ok _ hm
  have hle := h.ok.le
  have hlen := h.ok.len
  refine ⟨e, this.1, by omega, ?_⟩
  rw [h.ok.eq, List.getElem?_map, e]; rfl
theorem MW.self (h : MW rows k S) {i : Nat} (hi : i < S.1.length) : numM rows S (wrd S i) = i := by
  obtain ⟨_, _, _, e⟩ := h.wok hi
  have e' := (List.getElem?_eq_some_iff.1 e).2
  rw [numM, ← e']
  exact h.ok.nd.idxOf_getElem i hi
end
end Go.Proofs.Ythnpflkpjimkfaa

/-
  BELOW: the elements that are reached by writing letters before or after. The law. Conditions: none.
-/
namespace Go.Proofs.Ythnpflkpjimkfaa
open Go.AM
open Go.Proofs.Try (prog)
set_option linter.all false
set_option maxRecDepth 100000
set_option maxHeartbeats 4000000
inductive Rch (stp : Nat → List Nat) (i : Nat) : Nat → Prop
  | refl : Rch stp i i
  | step {j k : Nat} : Rch stp i j → k ∈ stp j → Rch stp i k
abbrev VP := List Bool × List Nat
def vis1 (P : VP) (j : Nat) : VP := if bnth P.1 j = true then P else (P.1.set j true, P.2 ++ [j])
def visF (l : List Nat) (P : VP) : VP := l.foldl vis1 P
def vis (stp : Nat → List Nat) : Nat → VP → List Bool
  | 0, P => P.1
  | f + 1, P => match P.2 with
    | [] => P.1
    | x :: _ => vis stp f ((visF (stp x) P).1, (visF (stp x) P).2.drop 1)
def cf (row : List Bool) : Nat := row.countP fun b => !b
structure VI (n : Nat) (stp : Nat → List Nat) (i : Nat) (P : VP) : Prop where
  l : P.1.length = n
  m : bnth P.1 i = true
  r : ∀ j, j < n → bnth P.1 j = true → Rch stp i j
  t : ∀ j ∈ P.2, j < n ∧ bnth P.1 j = true
  c : ∀ j, j < n → bnth P.1 j = true → j ∈ P.2 ∨ ∀ k ∈ stp j, bnth P.1 k = true
section
variable {n : Nat} {stp : Nat → List Nat} {i : Nat}
end
section
variable {rows : List (List Int)} {k : Nat} {S : SM}
def stpM (rows : List (List Int)) (S : SM) (k : Nat) (lf rt : Bool) (i : Nat) : List Nat := (List.range k).flatMap fun a => (if lf = true then [numM rows S (ltr a ++ wrd S i)] else []) ++ (if rt = true then [numM rows S (wrd S i ++ ltr a)] else [])
def Blw (rows : List (List Int)) (S : SM) (k : Nat) (lf rt : Bool) (i j : Nat) : Prop := ∃ u v, okW k u ∧ okW k v ∧ (lf = false → u = []) ∧ (rt = false → v = []) ∧ numM rows S (u ++ wrd S i ++ v) = j
theorem mv6_congr {u u' w w' : List UInt8} (h1 : ∀ s, s < rows.length → goL rows u s = goL rows u' s) (hlt : ∀ s, s < rows.length → goL rows u' s < rows.length) (h2 : ∀ s, s < rows.length → goL rows w s = goL rows w' s) : ∀ s, s < rows.length → goL rows (u ++ w) s = goL rows (u' ++ w') s := fun s hs => by
  have ga : ∀ (u w : List UInt8) (s : Nat), goL rows (u ++ w) s = goL rows w (goL rows u s) := by
    intro u
    induction u with
    | nil => intro w s; rfl
    | cons c u ih => intro w s; rw [List.cons_append, goL, goL, ih]
  rw [ga, ga, h1 s hs, h2 _ (hlt s hs)]
theorem mv6_ext {u u' : List UInt8} (h : ∀ s, s < rows.length → goL rows u s = goL rows u' s) : mv6 rows u = mv6 rows u' := by
  rw [mv6, mv6, mvF, mvF]
  refine List.map_congr_left fun s hs => ?_
  by_cases q : s < rows.length
  · rw [if_pos q, if_pos q, h s q]
  · rw [if_neg q, if_neg q]
theorem mv6_at {u u' : List UInt8} (n6 : rows.length ≤ 6) (h : mv6 rows u = mv6 rows u') : ∀ s, s < rows.length → goL rows u s = goL rows u' s := fun s hs => by
  have e1 : (mv6 rows u).getD s 0 = goL rows u s := mvF_at (by omega) hs
  have e2 : (mv6 rows u').getD s 0 = goL rows u' s := mvF_at (by omega) hs
  rw [← e1, ← e2, h]
variable {good : List Bool}
theorem goL_lt7 (v : VB rows good k) {w : List UInt8} (hw : okW k w) {s : Nat} (hs : s < rows.length) : goL rows w s < rows.length := by
  have := goL_lt v w w.length 0 s (by omega) hs ((letF_iff k w).2 hw)
  rw [goF_goL rows w w.length 0 s (by omega)] at this
  simpa using this
theorem num_congr (v : VB rows good k) {u w w' x : List UInt8} (hu : okW k u) (hw : okW k w) (hw' : okW k w') (h : mv6 rows w = mv6 rows w') : numM rows S (u ++ w ++ x) = numM rows S (u ++ w' ++ x) := by
  have h1 := mv6_at v.n6 h
  have : mv6 rows (u ++ w ++ x) = mv6 rows (u ++ w' ++ x) := mv6_ext (mv6_congr (mv6_congr (fun _ _ => rfl) (fun s hs => goL_lt7 v hu hs) h1) (fun s hs => goL_lt7 v (okW_app hu hw') hs) (fun _ _ => rfl))
  rw [numM, numM, this]
theorem wrd_num (v : VB rows good k) (W : MW rows k S) {w : List UInt8} (hw : okW k w) : mv6 rows (wrd S (numM rows S w)) = mv6 rows w := by
  have h1 := W.at v.n6 v.k3 hw
  obtain ⟨_, _, _, h2⟩ := W.wok (W.lt v.n6 v.k3 hw)
  rw [h1] at h2
  exact (Option.some.inj h2).symm
theorem okW_ltr {a : Nat} (ha : a < k) (k3 : k ≤ 3) : okW k (ltr a) := by
  have := okW_ext (okW_nil k) ha k3
  simpa [extL] using this
theorem blw_of_rch (v : VB rows good k) (W : MW rows k S) {lf rt : Bool} {i j : Nat} (hi : i < S.1.length) (r : Rch (stpM rows S k lf rt) i j) : Blw rows S k lf rt i j := by
  obtain ⟨_, wi, _, _⟩ := W.wok hi
  induction r with
  | refl => exact ⟨[], [], okW_nil k, okW_nil k, fun _ => rfl, fun _ => rfl, by simpa using W.self hi⟩
  | step r1 hk ih =>
    rename_i j k'
    obtain ⟨u, x, hu, hx, h1, h2, e⟩ := ih
    have hok := okW_app (okW_app hu wi) hx
    have hj : mv6 rows (wrd S j) = mv6 rows (u ++ wrd S i ++ x) := by rw [← e]; exact wrd_num v W hok
    have hjl : j < S.1.length := by rw [← e]; exact W.lt v.n6 v.k3 hok
    obtain ⟨_, wj, _, _⟩ := W.wok hjl
    simp only [stpM, List.mem_flatMap, List.mem_range] at hk
    obtain ⟨a, ha, hk⟩ := hk
    have ho := okW_ltr ha v.k3
    rcases List.mem_append.1 hk with hk | hk
    · split at hk
      · rename_i hl
        simp at hk
        refine ⟨ltr a ++ u, x, okW_app ho hu, hx, fun q => (by rw [hl] at q; cases q), h2, ?_⟩
        have := num_congr (S := S) (x := []) v ho wj hok hj
        simp only [List.append_nil] at this
        rw [hk, this]; simp only [List.append_assoc]
      · simp at hk
    · split at hk
      · rename_i hl
        simp at hk
        refine ⟨u, x ++ ltr a, hu, okW_app hx ho, h1, fun q => (by rw [hl] at q; cases q), ?_⟩
        have := num_congr (S := S) (u := []) (x := ltr a) v (okW_nil k) wj hok hj
        simp only [List.nil_append] at this
        rw [hk, this]; simp only [List.append_assoc]
      · simp at hk
theorem rch_of_blw (v : VB rows good k) (W : MW rows k S) {lf rt : Bool} {i j : Nat} (hi : i < S.1.length) (b : Blw rows S k lf rt i j) : Rch (stpM rows S k lf rt) i j := by
  obtain ⟨_, wi, _, _⟩ := W.wok hi
  have left : ∀ (u : List UInt8), okW k u → (lf = false → u = []) → Rch (stpM rows S k lf rt) i (numM rows S (u ++ wrd S i)) := by
    intro u
    induction u with
    | nil => intro _ _; rw [List.nil_append, W.self hi]; exact .refl
    | cons c u ih =>
      intro hu hl
      have hlt : lf = true := by cases lf with
        | true => rfl
        | false => exact absurd (hl rfl) (by simp)
      have hu' : okW k u := fun b hb => hu b (by simp [hb])
      have hc := hu c (by simp)
      have r := ih hu' (fun q => by rw [hlt] at q; cases q)
      refine r.step ?_
      have hok := okW_app hu' wi
      have hjl := W.lt v.n6 v.k3 hok
      obtain ⟨_, wj, _, _⟩ := W.wok hjl
      simp only [stpM, List.mem_flatMap, List.mem_range]
      refine ⟨c.toNat - 97, hc.2, List.mem_append_left _ ?_⟩
      rw [if_pos hlt, ← chr_ltr hc.1]
      have := num_congr (S := S) (u := [c]) (x := []) v (fun b hb => hu b (by simp at hb; simp [hb])) wj hok (wrd_num v W hok)
      simp only [List.append_nil] at this
      rw [this]; simp
  obtain ⟨u, x, hu, hx, h1, h2, e⟩ := b
  have right : ∀ (x y : List UInt8), okW k x → okW k y → (rt = false → x = []) → Rch (stpM rows S k lf rt) i (numM rows S (u ++ wrd S i ++ y)) → Rch (stpM rows S k lf rt) i (numM rows S (u ++ wrd S i ++ y ++ x)) := by
    intro x
    induction x with
    | nil => intro y _ _ _ r; rw [List.append_nil]; exact r
    | cons c x ih =>
      intro y hx hy hl r
      have hrt : rt = true := by cases rt with
        | true => rfl
        | false => exact absurd (hl rfl) (by simp)
      have hc := hx c (by simp)
      have hx' : okW k x := fun b hb => hx b (by simp [hb])
      have hc1 : okW k [c] := fun b hb => hx b (by simp at hb; simp [hb])
      have e1 : u ++ wrd S i ++ y ++ c :: x = u ++ wrd S i ++ (y ++ [c]) ++ x := by simp
      rw [e1]
      refine ih (y ++ [c]) hx' (okW_app hy hc1) (fun q => by rw [hrt] at q; cases q) (r.step ?_)
      have hok := okW_app (okW_app hu wi) hy
      have hjl := W.lt v.n6 v.k3 hok
      obtain ⟨_, wj, _, _⟩ := W.wok hjl
      simp only [stpM, List.mem_flatMap, List.mem_range]
      refine ⟨c.toNat - 97, hc.2, List.mem_append_right _ ?_⟩
      rw [if_pos hrt, ← chr_ltr hc.1]
      have := num_congr (S := S) (u := []) (x := [c]) v (okW_nil k) wj hok (wrd_num v W hok)
      simp only [List.nil_append] at this
      rw [this]; simp
  have := right x [] hx (okW_nil k) h2 (by rw [List.append_nil]; exact left u hu h1)
  rw [List.append_nil, e] at this
  exact this
end
end Go.Proofs.Ythnpflkpjimkfaa

/-
  Monoid, Element, Idempotents: what the program returns. Conditions: none.
-/
namespace Go.Proofs.Ythnpflkpjimkfaa
open Go.AM
open Go.Proofs.Try (prog)
set_option linter.all false
set_option maxRecDepth 100000
set_option maxHeartbeats 8000000
end Go.Proofs.Ythnpflkpjimkfaa

/-
  BODIES OF FUNCTIONS OF THE PROGRAM AS SMALL OPERATIONS (written by gen.py; checked by the kernel against the program). Conditions: none.
-/
namespace Go.Proofs.Ythnpflkpjimkfaa
open Go.AM
open Go.Proofs.Try (prog)
set_option maxRecDepth 100000
set_option linter.all false
end Go.Proofs.Ythnpflkpjimkfaa

/-
  BELOW: the program's steps, a table of lists. Conditions: none.
-/
namespace Go.Proofs.Ythnpflkpjimkfaa
open Go.AM
open Go.Proofs.Try (prog)
set_option linter.all false
set_option maxRecDepth 100000
set_option maxHeartbeats 8000000
def vat (vs : List AV) (i : Nat) : AV := vs.getD i .nils
def lat (L : List (List Nat)) (i : Nat) : List Nat := L.getD i []
theorem vat_set {vs : List AV} {i j : Nat} {x : AV} (h : i < vs.length) : vat (vs.set i x) j = if i = j then x else vat vs j := by
  simp only [vat, List.getD_eq_getElem?_getD, List.getElem?_set]
  by_cases e : i = j
  · subst e; simp [h]
  · simp [e]
theorem lat_set {vs : List (List Nat)} {i j : Nat} {x : List Nat} (h : i < vs.length) : lat (vs.set i x) j = if i = j then x else lat vs j := by
  simp only [lat, List.getD_eq_getElem?_getD, List.getElem?_set]
  by_cases e : i = j
  · subst e; simp [h]
  · simp [e]
structure Tb (h : Nat → Option AObj) (T : Nat) (vs : List AV) (L : List (List Nat)) (lo hi : Nat) : Prop where
  o : h T = some (.cells vs)
  l : vs.length = L.length
  e : ∀ i, i < L.length → Nl h (vat vs i) ((lat L i).map natV) lo hi
  dj : ∀ i j, i < L.length → j < L.length → i ≠ j → ∀ y, objId (vat vs i) = some y → objId (vat vs j) ≠ some y
  t : T < lo
section
variable {h : Nat → Option AObj} {T : Nat} {vs : List AV} {L : List (List Nat)} {lo hi : Nat}
theorem Tb.ld (B : Tb h T vs L lo hi) {i : Nat} (hi : i < L.length) (nx : Nat) : loadA false 1 ⟨h, nx⟩ (.ptr T i L.length) = some (vat vs i) := by
  have hv : i < vs.length := by rw [B.l]; exact hi
  rw [loadA_ptr]
  show loadO false 1 i L.length (h T) = _
  rw [B.o, loadO_cells]
  simp [B.l, vat, hv, hi, List.getD_eq_getElem?_getD]
theorem Tb.fr {h' : Nat → Option AObj} {hi' : Nat} (B : Tb h T vs L lo hi) (e : ∀ y, y < hi → h' y = h y) (l : hi ≤ hi') (hl : lo ≤ hi) : Tb h' T vs L lo hi' :=
  ⟨by rw [e T (by have := B.t; omega), B.o], B.l, fun i hi => (B.e i hi).fr (fun y y1 y2 _ => e y y2) l, B.dj, B.t⟩
theorem Tb.push (B : Tb h T vs L lo hi) {nx : Nat} (hh : hi ≤ nx) (hl : lo ≤ hi) {i : Nat} (hiL : i < L.length) (hr : (lat L i).length ≤ 1000) (x : Nat) :
    ∃ v' h' nx', appT 1 8 ⟨h, nx⟩ (vat vs i) (some (1, [natV x])) = some (v', ⟨h', nx'⟩) ∧ (∀ n2, stA false 1 ⟨h', n2⟩ (.ptr T i L.length) v' = some (.tup [], ⟨upd h' T (some (.cells (vs.set i v'))), n2⟩)) ∧ Tb (upd h' T (some (.cells (vs.set i v')))) T (vs.set i v') (L.set i (lat L i ++ [x])) lo (nx + 1) ∧ (∀ y, y < lo → y ≠ T → (upd h' T (some (.cells (vs.set i v')))) y = h y) := by
  have hv : i < vs.length := by rw [B.l]; exact hiL
  have hT := B.t
  obtain ⟨v', h', nx', g1, g2, g3, g4, g5, g6, g7⟩ := (B.e i hiL).app (nx := nx) (by' := 8) hh (by omega) (by simp; omega) (natV x)
  have hid : ∀ y, objId v' = some y → lo ≤ y := fun y e => by
    rcases g5 y e with q | q
    · exact ((B.e i hiL).oid q).1
    · omega
  have hT' : h' T = some (.cells vs) := by rw [g6 T (fun e => by have := hid T e; omega), B.o]
  refine ⟨v', h', nx', g1, fun n2 => ?_, ⟨by simp, by simp [B.l], fun j hj => ?_, fun j j' hj hj' hne y => ?_, hT⟩, fun y y1 y2 => by rw [updNe y2, g6 y (fun e => by have := hid y e; omega)]⟩
  · rw [stA_ptr]
    show stO false 1 ⟨h', n2⟩ T i L.length v' (h' T) = _
    rw [hT', stO_cells0]
    simp [B.l, hiL, (show v'.one = true from g2.one), Mem.set]
  · have hj : j < L.length := by simpa using hj
    rw [vat_set hv, lat_set hiL]
    by_cases q : i = j
    · rw [if_pos q, if_pos q, List.map_append]
      exact g2.fr (fun y y1 y2 _ => updNe (by omega)) g4
    · rw [if_neg q, if_neg q]
      exact (B.e j hj).fr (fun y y1 y2 ye => by
        rw [updNe (by omega), g6 y (fun e => by
          rcases g5 y e with w | w
          · exact B.dj i j hiL hj q y w ye
          · omega)]) (by omega)
  · have hj : j < L.length := by simpa using hj
    have hj' : j' < L.length := by simpa using hj'
    rw [vat_set hv, vat_set hv]
    by_cases q : i = j
    · rw [if_pos q, if_neg (by omega)]
      intro e e'
      rcases g5 y e with w | w
      · exact B.dj i j' hiL hj' (by omega) y w e'
      · have := (B.e j' hj').oid e'; omega
    · rw [if_neg q]
      by_cases q' : i = j'
      · rw [if_pos q']
        intro e e'
        rcases g5 y e' with w | w
        · exact B.dj i j hiL hj q y w e
        · have := (B.e j hj).oid e; omega
      · rw [if_neg q']; exact B.dj j j' hj hj' hne y
end
end Go.Proofs.Ythnpflkpjimkfaa

/-
  BELOW: the program's searches, and what it returns. Conditions: none.
-/
namespace Go.Proofs.Ythnpflkpjimkfaa
open Go.AM
open Go.Proofs.Try (prog)
set_option linter.all false
set_option maxRecDepth 100000
set_option maxHeartbeats 8000000
structure Bs (h : Nat → Option AObj) (nx : Nat) (T d : Nat) (vs : List AV) (L : List (List Nat)) (lo hiT : Nat) (ids : List Nat) (Dp : MB) (n e : Nat) (q : AV) (iq : Nat) (P : VP) : Prop where
  tb : Tb h T vs L lo hiT
  bt : Bt h d ids (Dp ++ [P.1]) n e
  q : Gl ⟨h, nx⟩ q iq 1 P.2.length (P.2.map natV)
  lt : lo ≤ hiT ∧ hiT ≤ d ∧ (∀ y ∈ ids, hiT ≤ y ∧ y < nx) ∧ hiT ≤ iq ∧ iq ≠ d ∧ iq ∉ ids ∧ d < nx
  s : cf P.1 + P.2.length ≤ 500
end Go.Proofs.Ythnpflkpjimkfaa

/-
  BELOW: what the program returns. Conditions: none.
-/
namespace Go.Proofs.Ythnpflkpjimkfaa
open Go.AM
open Go.Proofs.Try (prog)
set_option linter.all false
set_option maxRecDepth 100000
set_option maxHeartbeats 8000000
end Go.Proofs.Ythnpflkpjimkfaa

/-
  CLASSES: what the program returns. Conditions: none.
-/
namespace Go.Proofs.Ythnpflkpjimkfaa
open Go.AM
open Go.Proofs.Try (prog)
set_option linter.all false
set_option maxRecDepth 100000
set_option maxHeartbeats 8000000
structure Eqv (E : Nat → Nat → Bool) (n : Nat) : Prop where
  rf : ∀ i, i < n → E i i = true
  sy : ∀ i j, i < n → j < n → E i j = true → E j i = true
  tr : ∀ i j k, i < n → j < n → k < n → E i j = true → E j k = true → E i k = true
end Go.Proofs.Ythnpflkpjimkfaa

/-
  BODIES OF FUNCTIONS OF THE PROGRAM AS SMALL OPERATIONS (written by gen.py; checked by the kernel against the program). Conditions: none.
-/
namespace Go.Proofs.Ythnpflkpjimkfaa
open Go.AM
open Go.Proofs.Try (prog)
set_option maxRecDepth 100000
set_option linter.all false
end Go.Proofs.Ythnpflkpjimkfaa

/-
  WHAT WORDS DO, AS STRINGS OF STATES: the specification's. Conditions: none.
-/
namespace Go.Proofs.Ythnpflkpjimkfaa
open Go.AM
open Go.Proofs.Try (prog)
set_option linter.all false
set_option maxRecDepth 100000
set_option maxHeartbeats 8000000
def bysV (l : List UInt8) : List AV := l.map fun b => .int .u8 (b.toNat : Nat)
@[simp] theorem bysV_len (l : List UInt8) : (bysV l).length = l.length := by simp [bysV]
def doF (f : Nat → Nat) (c : Nat) : List UInt8 := (List.range c).map fun s => UInt8.ofNat (f s)
def encD (n : Nat) (t : List Nat) : List UInt8 := doF (fun s => t.getD s 0) n
@[simp] theorem doF_len (f : Nat → Nat) (c : Nat) : (doF f c).length = c := by simp [doF]
theorem goL_lt6 {rows : List (List Int)} {good : List Bool} {k : Nat} (v : VB rows good k) {w : List UInt8} (hw : okW k w) {s : Nat} (hs : s < rows.length) : goL rows w s < rows.length := by
  have := goL_lt v w w.length 0 s (by omega) hs ((letF_iff k w).2 hw)
  rw [goF_goL rows w w.length 0 s (by omega)] at this
  simpa using this
end Go.Proofs.Ythnpflkpjimkfaa

/-
  ALL ELEMENTS OF A MONOID: the specification's search. Conditions: none.
-/
namespace Go.Proofs.Ythnpflkpjimkfaa
open Go.AM
open Go.Proofs.Try (prog)
set_option linter.all false
set_option maxRecDepth 100000
set_option maxHeartbeats 8000000
structure Dw (h : Nat → Option AObj) (M : Nat) (dv wv : AV) (n : Nat) (S : SM) (lo hi : Nat) : Prop where
  o : h M = some (.cells [dv, wv])
  d : Nf h dv ((S.1.map (encD n)).map .str) lo hi
  w : Nf h wv (S.2.map .str) lo hi
  dj : ∀ y, objId dv = some y → objId wv ≠ some y
  z : h 0 = some (.cells [.nils, .nils])
  mo : M < lo ∧ 0 < M
  x : isF dv = decide (S.2.length = 1) ∧ isF wv = decide (S.2.length = 1)
end Go.Proofs.Ythnpflkpjimkfaa

/-
  PRODUCTS, ELEMENTS, IDEMPOTENTS: the specification's; lists of strings that are the same. Conditions: none.
-/
namespace Go.Proofs.Ythnpflkpjimkfaa
open Go.AM
open Go.Proofs.Try (prog)
set_option linter.all false
set_option maxRecDepth 100000
set_option maxHeartbeats 8000000
section
variable {rows : List (List Int)} {good : List Bool} {k : Nat} {S : SM}
end
end Go.Proofs.Ythnpflkpjimkfaa

/-
  ELEMENTS AND IDEMPOTENTS: the specification's; lists of strings that are the same. Conditions: none.
-/
namespace Go.Proofs.Ythnpflkpjimkfaa
open Go.AM
open Go.Proofs.Try (prog)
set_option linter.all false
set_option maxRecDepth 100000
set_option maxHeartbeats 8000000
def IsS (v : AV) (l : List (List UInt8)) : Prop := (v = .nils ∧ l = []) ∨ ∃ ex, v = .fsl ex l.length (l.map .str)
theorem IsS.len {v : AV} {l : List (List UInt8)} (h : IsS v l) : lenSl v = some (.int .i64 l.length) := by rcases h with ⟨rfl, rfl⟩ | ⟨_, rfl⟩ <;> rfl
theorem IsS.closed {v : AV} {l : List (List UInt8)} (h : IsS v l) : v.closed = true := by rcases h with ⟨rfl, rfl⟩ | ⟨_, rfl⟩ <;> rfl
theorem IsS.one {v : AV} {l : List (List UInt8)} (h : IsS v l) : v.one = true := by rcases h with ⟨rfl, rfl⟩ | ⟨_, rfl⟩ <;> rfl
theorem IsS.idx {v : AV} {l : List (List UInt8)} (h : IsS v l) {i : Nat} (hi : i < l.length) (k : IntKind) : idxSl 1 v (.int k (i : Int)) = some (.fptr ((l.map .str).drop i)) := by
  rcases h with ⟨rfl, rfl⟩ | ⟨_, rfl⟩
  · simp at hi
  · simp [hi]
end Go.Proofs.Ythnpflkpjimkfaa

/-
  CLASSES: all of them. Conditions: none.
-/
namespace Go.Proofs.Ythnpflkpjimkfaa
open Go.AM
open Go.Proofs.Try (prog)
set_option linter.all false
set_option maxRecDepth 100000
set_option maxHeartbeats 8000000
end Go.Proofs.Ythnpflkpjimkfaa

/-
  CLASSES: Left, Right, Classes; lists of lists that are the same. Conditions: none.
-/
namespace Go.Proofs.Ythnpflkpjimkfaa
open Go.AM
open Go.Proofs.Try (prog)
set_option linter.all false
set_option maxRecDepth 100000
set_option maxHeartbeats 8000000
theorem Rch.trans {stp : Nat → List Nat} {i j k : Nat} (h : Rch stp i j) (g : Rch stp j k) : Rch stp i k := by
  induction g with
  | refl => exact h
  | step _ hk ih => exact ih.step hk
section
variable {rows : List (List Int)} {good : List Bool} {k : Nat} {S : SM}
theorem Blw.rf (W : MW rows k S) {lf rt : Bool} {i : Nat} (hi : i < S.1.length) : Blw rows S k lf rt i i := ⟨[], [], okW_nil k, okW_nil k, fun _ => rfl, fun _ => rfl, by simpa using W.self hi⟩
theorem Blw.tr (v : VB rows good k) (W : MW rows k S) {lf rt : Bool} {i j l : Nat} (hi : i < S.1.length) (hj : j < S.1.length) (h : Blw rows S k lf rt i j) (g : Blw rows S k lf rt j l) : Blw rows S k lf rt i l :=
  blw_of_rch v W hi ((rch_of_blw v W hi h).trans (rch_of_blw v W hj g))
end
def IsSS (v : AV) (l : List (List (List UInt8))) : Prop := (v = .nils ∧ l = []) ∨ ∃ ex cs, v = .fsl ex l.length cs ∧ cs.length = l.length ∧ ∀ i (hi : i < l.length), ∃ x, cs[i]? = some x ∧ IsS x l[i]
theorem IsSS.len {v : AV} {l : List (List (List UInt8))} (h : IsSS v l) : lenSl v = some (.int .i64 l.length) := by rcases h with ⟨rfl, rfl⟩ | ⟨_, _, rfl, _⟩ <;> rfl
theorem IsSS.closed {v : AV} {l : List (List (List UInt8))} (h : IsSS v l) : v.closed = true := by rcases h with ⟨rfl, rfl⟩ | ⟨_, _, rfl, _⟩ <;> rfl
theorem IsSS.one {v : AV} {l : List (List (List UInt8))} (h : IsSS v l) : v.one = true := by rcases h with ⟨rfl, rfl⟩ | ⟨_, _, rfl, _⟩ <;> rfl
theorem IsSS.at {v : AV} {l : List (List (List UInt8))} (h : IsSS v l) {i : Nat} (hi : i < l.length) : ∃ cs x, idxSl 1 v (.int .i64 (i : Int)) = some (.fptr cs) ∧ cs.head? = some x ∧ IsS x l[i] := by
  rcases h with ⟨rfl, rfl⟩ | ⟨_, cs, rfl, h1, h2⟩
  · simp at hi
  · obtain ⟨x, hx, hs⟩ := h2 i hi
    exact ⟨cs.drop i, x, by simp [hi], by rw [List.head?_drop]; exact hx, hs⟩
end Go.Proofs.Ythnpflkpjimkfaa

/-
  BODIES OF FUNCTIONS OF THE PROGRAM AS SMALL OPERATIONS (written by gen.py; checked by the kernel against the program). Conditions: none.
-/
namespace Go.Proofs.Ythnpflkpjimkfaa
open Go.AM
open Go.Proofs.Try (prog)
set_option maxRecDepth 100000
set_option linter.all false
namespace l07_Plan_made
noncomputable section
variable (K : List Item) (s : St)
def b : Code := (Try.f22.body).getD .skip
theorem hf : prog.funcs[22]? = some Try.f22 := by kernel_rfl
def r0 := findReg b 0
def r1 := findReg b 1
def r2 := findReg b 2
def r3 := findReg b 3
def k0 := findBlk b 0
def l0 := loopOf k0
def L0 (x1 x2 x3 x4 x5 x6 : AV) (m : Mem) (K : List Item) : Option Res := den prog ann 22 (.code l0 :: .inLoop l0 :: .inBlock 0 :: K) ⟨[(1, x1), (2, x2), (3, x3), (4, x4), (5, x5), (6, x6)], 79, m⟩
def r4 := findReg b 4
def i0 := findCond b 0
def i0t := thenOf i0
def i0e := elseOf i0
def k1 := findBlk b 1
def r6 := findReg b 6
def r7 := findReg b 7
def k2 := findBlk b 2
def l2 := loopOf k2
def L2 (x1 x2 x3 x4 x5 x6 x7 x8 : AV) (m : Mem) (K : List Item) : Option Res := den prog ann 22 (.code l2 :: .inLoop l2 :: .inBlock 2 :: K) ⟨[(1, x1), (2, x2), (3, x3), (4, x4), (5, x5), (6, x6), (7, x7), (8, x8)], 79, m⟩
def r8 := findReg b 8
def i1 := findCond b 1
def i1t := thenOf i1
def i1e := elseOf i1
def k3 := findBlk b 3
def r10 := findReg b 10
def r11 := findReg b 11
def r12 := findReg b 12
def i2 := findCond b 2
def i2t := thenOf i2
def i2e := elseOf i2
def r13 := findReg b 13
def r14 := findReg b 14
def i3 := findCond b 3
def i3t := thenOf i3
def i3e := elseOf i3
def r15 := findReg b 15
def r16 := findReg b 16
def r9 := findReg b 9
def r17 := findReg b 17
def r5 := findReg b 5
def r18 := findReg b 18
theorem b_eq : den prog ann 22 (.code b :: K) s = den prog ann 22 (.code r0 :: .code r1 :: .code r2 :: .code r3 :: .code k0 :: .code r18 :: .code .ret :: K) s := den_flat hf (l := [r0, r1, r2, r3, k0, r18, .ret]) (by kernel_rfl) K s
theorem r0_eq : den prog ann 22 (.code r0 :: K) s = mreg prog ann 22 none [] none [] [qA 1 frozenPtr 0,⟨some 2, none, .w false none fun s => newPtr s.m [.nils, .nils]⟩] K s := (den_reg hf _ K s).trans (by kernel_rfl)
theorem r1_draw : drawOk (fun g => (ann g).pure) (modeOf (ann 22) (idOf r1)) (frzOf (ann 22) (idOf r1)) (opsOf r1) = true := drawOk_of (an := [0, 1, 3, 7, 15, 0, 32, 96, 224, 480, 31, 2047]) (by kernel_rfl) (by kernel_rfl)
theorem r1_eq : den prog ann 22 (.code r1 :: K) s = mreg prog ann 22 none [] (some 12) [] [qA 11 (fieldA 0) 1,qA 12 (loadF false 1) 11,qA 13 (convInt .i64) 12,qF 14 fun s => binA prog .rem 3 (s.get 13) (.int .i64 6),qF 15 fun s => binA prog .add 3 (s.get 14) (.int .i64 1),qA 16 (fieldA 1) 1,qA 17 (loadF false 1) 16,qA 18 (convInt .i64) 17,qF 19 fun s => binA prog .rem 3 (s.get 18) (.int .i64 3),qF 20 fun s => binA prog .add 3 (s.get 19) (.int .i64 1),qC 3 15,qC 4 20] K s := (den_regD hf r1_draw K s).trans (by kernel_rfl)
theorem r2_eq : den prog ann 22 (.code r2 :: K) s = mreg prog ann 22 none [] none [] [qF 21 fun s => bldA (plc [(0, 1), (1, 1)]) [.nils, .nils] [],⟨some 5, none, .w false none fun s => newPtr s.m [.nils, .nils]⟩,⟨none, none, .w false none fun s => stA true 2 s.m (s.get 5) (s.get 21)⟩] K s := (den_reg hf _ K s).trans (by kernel_rfl)
theorem r3_eq : den prog ann 22 (.code r3 :: K) s = mreg prog ann 22 none [] none [] [qF 6 fun s => some (.int .i64 0)] K s := (den_reg hf _ K s).trans (by kernel_rfl)
theorem k0_eq (K : List Item) (t : List (Nat × AV)) (m : Mem) : den prog ann 22 (.code k0 :: K) ⟨t, 79, m⟩ = L0 (get t 1) (get t 2) (get t 3) (get t 4) (get t 5) (get t 6) m K := den_loop_enter hf (b := l0) (id := 4) (l := [1, 2, 3, 4, 5, 6]) (by kernel_rfl) (by kernel_rfl) (by kernel_rfl) K _
theorem l0_eq (K : List Item) (t : List (Nat × AV)) (m : Mem) : den prog ann 22 (.inLoop l0 :: .inBlock 0 :: K) ⟨t, 79, m⟩ = L0 (get t 1) (get t 2) (get t 3) (get t 4) (get t 5) (get t 6) m K := den_loop_again hf (id := 4) (l := [1, 2, 3, 4, 5, 6]) (by kernel_rfl) (by kernel_rfl) (.inBlock 0 :: K) _
theorem L0_eq (x1 x2 x3 x4 x5 x6 : AV) (m : Mem) (K : List Item) : L0 x1 x2 x3 x4 x5 x6 m K = den prog ann 22 (.code r4 :: .code i0 :: .code k1 :: .code r5 :: .inLoop l0 :: .inBlock 0 :: K) ⟨[(1, x1), (2, x2), (3, x3), (4, x4), (5, x5), (6, x6)], 79, m⟩ := den_flat hf (l := [r4, i0, k1, r5]) (by kernel_rfl) _ _
theorem r4_eq : den prog ann 22 (.code r4 :: K) s = mreg prog ann 22 (some [1, 2, 3, 4, 5, 6]) [] none [] [qC 22 6,qC 23 3,qB 24 (binA prog .lss 3) 22 23] K s := (den_reg hf _ K s).trans (by kernel_rfl)
theorem i0_eq : den prog ann 22 (.code i0 :: K) s = ifV prog ann 22 24 i0t i0e K s (s.get 24) := den_if hf (by kernel_rfl) K s
theorem i0t_eq : den prog ann 22 (.code i0t :: K) s = den prog ann 22 (K) s := den_flat hf (l := []) (by kernel_rfl) K s
theorem i0e_eq : den prog ann 22 (.code i0e :: K) s = den prog ann 22 (.code (.exit 0) :: K) s := den_flat hf (l := [(.exit 0)]) (by kernel_rfl) K s
theorem k1_eq : den prog ann 22 (.code k1 :: K) s = den prog ann 22 (.code r6 :: .code r7 :: .code k2 :: .code r17 :: .inBlock 1 :: K) s := den_blk hf (b := blkOf k1) (l := [r6, r7, k2, r17]) (by kernel_rfl) (by kernel_rfl) K s
theorem r6_eq : den prog ann 22 (.code r6 :: K) s = mreg prog ann 22 none [] none [] [⟨some 27, none, .w false none fun s => bslM s.m 0 (bslA 1 0 [.int .i64 0] [])⟩,qC 7 27] K s := (den_reg hf _ K s).trans (by kernel_rfl)
theorem r7_eq : den prog ann 22 (.code r7 :: K) s = mreg prog ann 22 none [] none [] [qF 8 fun s => some (.int .i64 0)] K s := (den_reg hf _ K s).trans (by kernel_rfl)
theorem k2_eq (K : List Item) (t : List (Nat × AV)) (m : Mem) : den prog ann 22 (.code k2 :: K) ⟨t, 79, m⟩ = L2 (get t 1) (get t 2) (get t 3) (get t 4) (get t 5) (get t 6) (get t 7) (get t 8) m K := den_loop_enter hf (b := l2) (id := 8) (l := [1, 2, 3, 4, 5, 6, 7, 8]) (by kernel_rfl) (by kernel_rfl) (by kernel_rfl) K _
theorem l2_eq (K : List Item) (t : List (Nat × AV)) (m : Mem) : den prog ann 22 (.inLoop l2 :: .inBlock 2 :: K) ⟨t, 79, m⟩ = L2 (get t 1) (get t 2) (get t 3) (get t 4) (get t 5) (get t 6) (get t 7) (get t 8) m K := den_loop_again hf (id := 8) (l := [1, 2, 3, 4, 5, 6, 7, 8]) (by kernel_rfl) (by kernel_rfl) (.inBlock 2 :: K) _
theorem L2_eq (x1 x2 x3 x4 x5 x6 x7 x8 : AV) (m : Mem) (K : List Item) : L2 x1 x2 x3 x4 x5 x6 x7 x8 m K = den prog ann 22 (.code r8 :: .code i1 :: .code k3 :: .code r9 :: .inLoop l2 :: .inBlock 2 :: K) ⟨[(1, x1), (2, x2), (3, x3), (4, x4), (5, x5), (6, x6), (7, x7), (8, x8)], 79, m⟩ := den_flat hf (l := [r8, i1, k3, r9]) (by kernel_rfl) _ _
theorem r8_eq : den prog ann 22 (.code r8 :: K) s = mreg prog ann 22 (some [1, 2, 3, 4, 5, 6, 7, 8]) [] none [] [qC 28 8,qC 29 4,qB 30 (binA prog .lss 3) 28 29] K s := (den_reg hf _ K s).trans (by kernel_rfl)
theorem i1_eq : den prog ann 22 (.code i1 :: K) s = ifV prog ann 22 30 i1t i1e K s (s.get 30) := den_if hf (by kernel_rfl) K s
theorem i1t_eq : den prog ann 22 (.code i1t :: K) s = den prog ann 22 (K) s := den_flat hf (l := []) (by kernel_rfl) K s
theorem i1e_eq : den prog ann 22 (.code i1e :: K) s = den prog ann 22 (.code (.exit 2) :: K) s := den_flat hf (l := [(.exit 2)]) (by kernel_rfl) K s
theorem k3_eq : den prog ann 22 (.code k3 :: K) s = den prog ann 22 (.code r10 :: .code r11 :: .code r12 :: .code i2 :: .code r14 :: .code i3 :: .code r16 :: .inBlock 3 :: K) s := den_blk hf (b := blkOf k3) (l := [r10, r11, r12, i2, r14, i3, r16]) (by kernel_rfl) (by kernel_rfl) K s
theorem r10_eq : den prog ann 22 (.code r10 :: K) s = mreg prog ann 22 none [] none [] [qF 9 fun s => some (.int .i64 0)] K s := (den_reg hf _ K s).trans (by kernel_rfl)
theorem r11_eq : den prog ann 22 (.code r11 :: K) s = mreg prog ann 22 none [] none [] [qC 33 6,qC 34 4,qB 35 (binA prog .mul 3) 33 34,qC 36 8,qB 37 (binA prog .add 3) 35 36,qC 10 37] K s := (den_reg hf _ K s).trans (by kernel_rfl)
theorem r12_eq : den prog ann 22 (.code r12 :: K) s = mreg prog ann 22 none [] none [] [qC 38 10,qA 39 (fieldA 2) 1,qA 40 (loadF false 1) 39,qA 41 lenSl 40,qB 42 (binA prog .lss 3) 38 41] K s := (den_reg hf _ K s).trans (by kernel_rfl)
theorem i2_eq : den prog ann 22 (.code i2 :: K) s = ifV prog ann 22 42 i2t i2e K s (s.get 42) := den_if hf (by kernel_rfl) K s
theorem i2t_eq : den prog ann 22 (.code i2t :: K) s = den prog ann 22 (.code r13 :: K) s := den_flat hf (l := [r13]) (by kernel_rfl) K s
theorem r13_eq : den prog ann 22 (.code r13 :: K) s = mreg prog ann 22 none [] none [] [qA 43 (fieldA 2) 1,qA 44 (loadF false 1) 43,qC 45 10,qB 46 (idxSl 1) 44 45,qA 47 (loadF false 1) 46,qA 48 (convInt .i64) 47,qC 49 3,qB 50 (binA prog .rem 3) 48 49,qC 9 50] K s := (den_reg hf _ K s).trans (by kernel_rfl)
theorem i2e_eq : den prog ann 22 (.code i2e :: K) s = den prog ann 22 (K) s := den_flat hf (l := []) (by kernel_rfl) K s
theorem r14_eq : den prog ann 22 (.code r14 :: K) s = mreg prog ann 22 none [] none [] [qA 51 (fieldA 3) 1,qA 52 (loadF false 1) 51,qF 53 fun s => binA prog .geq 5 (s.get 52) (.int .u8 128)] K s := (den_reg hf _ K s).trans (by kernel_rfl)
theorem i3_eq : den prog ann 22 (.code i3 :: K) s = ifV prog ann 22 53 i3t i3e K s (s.get 53) := den_if hf (by kernel_rfl) K s
theorem i3t_eq : den prog ann 22 (.code i3t :: K) s = den prog ann 22 (.code r15 :: K) s := den_flat hf (l := [r15]) (by kernel_rfl) K s
theorem r15_eq : den prog ann 22 (.code r15 :: K) s = mreg prog ann 22 none [] none [] [qC 54 9,qC 55 6,qF 56 fun s => foldA max2A (s.get 54) [(s.get 55)],qC 9 56] K s := (den_reg hf _ K s).trans (by kernel_rfl)
theorem i3e_eq : den prog ann 22 (.code i3e :: K) s = den prog ann 22 (K) s := den_flat hf (l := []) (by kernel_rfl) K s
theorem r16_eq : den prog ann 22 (.code r16 :: K) s = mreg prog ann 22 (some [1, 2, 3, 4, 5, 6, 7, 8, 9]) [] none [] [qC 57 7,qC 58 9,qF 59 fun s => bslF 1 (bslA 1 1 [.int .i64 0] [(0, (s.get 58))]),⟨some 60, none, .w false none fun s => appendA 1 8 s.m (s.get 57) (s.get 59)⟩,qC 7 60] K s := (den_reg hf _ K s).trans (by kernel_rfl)
theorem r9_eq : den prog ann 22 (.code r9 :: K) s = mreg prog ann 22 (some [1, 2, 3, 4, 5, 6, 7, 8]) [] none [] [qC 31 8,qF 32 fun s => binA prog .add 3 (s.get 31) (.int .i64 1),qC 8 32] K s := (den_reg hf _ K s).trans (by kernel_rfl)
theorem r17_draw : drawOk (fun g => (ann g).pure) (modeOf (ann 22) (idOf r17)) (frzOf (ann 22) (idOf r17)) (opsOf r17) = true := drawOk_of (an := [0, 1, 0, 4, 15, 0, 32, 0, 128, 0, 896, 1920, 3968, 8064, 16383, 127, 65535, 131071, 262143]) (by kernel_rfl) (by kernel_rfl)
theorem r17_eq : den prog ann 22 (.code r17 :: K) s = mreg prog ann 22 (some [1, 2, 3, 4, 5, 6, 7]) [7] (some 19) [3062066, 2000064] [qA 61 (fieldA 0) 5,qF 62 fun s => loadA false 1 s.m (s.get 61),qC 63 7,qF 64 fun s => bslF 1 (bslA 1 1 [.nils] [(0, (s.get 63))]),⟨some 65, none, .w false (some 4) fun s => appendA 1 24 s.m (s.get 62) (s.get 64)⟩,qA 66 (fieldA 1) 5,qF 67 fun s => loadA false 1 s.m (s.get 66),qA 68 (fieldA 3) 1,qA 69 (loadF false 1) 68,qC 70 6,qB 71 (binA prog .shr 5) 69 70,qF 72 fun s => binA prog .and 5 (s.get 71) (.int .u8 1),qF 73 fun s => binA prog .eql 5 (s.get 72) (.int .u8 1),qF 74 fun s => bslF 1 (bslA 1 1 [.bool false] [(0, (s.get 73))]),⟨some 75, none, .w false (some 14) fun s => appendA 1 1 s.m (s.get 67) (s.get 74)⟩,qA 76 (fieldA 0) 5,⟨none, none, .w false (some 16) fun s => stA false 1 s.m (s.get 76) (s.get 65)⟩,qA 77 (fieldA 1) 5,⟨none, none, .w false (some 18) fun s => stA false 1 s.m (s.get 77) (s.get 75)⟩] K s := (den_regD hf r17_draw K s).trans (by kernel_rfl)
theorem r5_eq : den prog ann 22 (.code r5 :: K) s = mreg prog ann 22 (some [1, 2, 3, 4, 5, 6]) [] none [] [qC 25 6,qF 26 fun s => binA prog .add 3 (s.get 25) (.int .i64 1),qC 6 26] K s := (den_reg hf _ K s).trans (by kernel_rfl)
theorem r18_eq : den prog ann 22 (.code r18 :: K) s = mreg prog ann 22 (some [2, 5]) [] none [] [qF 78 fun s => loadA true 2 s.m (s.get 5),⟨none, none, .w false none fun s => stA true 2 s.m (s.get 2) (s.get 78)⟩] K s := (den_reg hf _ K s).trans (by kernel_rfl)
theorem ret_eq : den prog ann 22 (.code .ret :: K) s = finM true [fun s => loadA true 2 s.m (s.get 2)] s := (den_ret hf K s).trans (by kernel_rfl)
theorem nil_eq (s : St) : den prog ann 22 [] s = finM true [fun s => loadA true 2 s.m (s.get 2)] s := (den_nil hf s).trans (by kernel_rfl)
theorem inBlock_eq (id : Nat) (K : List Item) (s : St) : den prog ann 22 (.inBlock id :: K) s = den prog ann 22 K s := den_inBlock hf id K s
theorem exit_eq (id : Nat) (K : List Item) (s : St) : den prog ann 22 (.code (.exit id) :: K) s = exitV prog ann 22 (exitTo id K) s := den_exitV hf id K s
theorem call_eq (v0 : AV) (m : Mem) (h : closedL [v0] = true) : denC prog ann 22 [v0] m = (den prog ann 22 [.code b] ⟨[(0, v0)], 79, Mem.empty⟩).bind fun r => some (r.1, m) := (denC_pure hf (b := b) (by kernel_rfl) (by kernel_rfl) (by kernel_rfl) h m).trans (by kernel_rfl)
theorem pure_eq : (ann 22).pure = true := by kernel_rfl
attribute [simp] b_eq r0_eq r1_eq r2_eq r3_eq k0_eq l0_eq r4_eq i0_eq i0t_eq i0e_eq k1_eq r6_eq r7_eq k2_eq l2_eq r8_eq i1_eq i1t_eq i1e_eq k3_eq r10_eq r11_eq r12_eq i2_eq i2t_eq r13_eq i2e_eq r14_eq i3_eq i3t_eq r15_eq i3e_eq r16_eq r9_eq r17_eq r5_eq r18_eq ret_eq nil_eq inBlock_eq exit_eq pure_eq
end
end l07_Plan_made
end Go.Proofs.Ythnpflkpjimkfaa

/-
  PLANS: numbers from which the laws make brands. Conditions: none.
-/
namespace Go.Proofs.Ythnpflkpjimkfaa
open Go.AM
open Go.Proofs.Try (prog)
set_option linter.all false
set_option maxRecDepth 100000
set_option maxHeartbeats 8000000
theorem u5 : prog.underlying 5 = some (.int .u8) := by kernel_rfl
theorem u35 : prog.underlying 35 = some (.slice 5) := by kernel_rfl
theorem u37 : prog.underlying 37 = some (.struct #[⟨ "States", 5, 0, false, "", "", 0⟩, ⟨ "Signs", 5, 1, false, "", "", 1⟩, ⟨ "Next", 35, 2, false, "", "", 8⟩, ⟨ "Good", 5, 3, false, "", "", 32⟩]) := by kernel_rfl
def bytN (l : List Nat) : List AV := l.map fun x => .int .u8 (x : Nat)
def IsBy (v : AV) (l : List Nat) : Prop := (v = .nils ∧ l = []) ∨ ∃ ex, v = .fsl ex l.length (bytN l)
theorem dat5 {d : Nat} {cs : List AV} (h : Dat prog (d + 1) 5 cs) : ∃ n : Nat, cs = [.int .u8 (n : Nat)] ∧ n < 256 := by
  simp only [Dat, u5] at h
  obtain ⟨n, e, hw⟩ := h
  simp only [Lit.wf, Bool.and_eq_true, decide_eq_true_eq] at hw
  have e1 : IntKind.min .u8 = 0 := by decide
  have e2 : IntKind.max .u8 = 255 := by decide
  rw [e1, e2] at hw
  refine ⟨n.toNat, ?_, by omega⟩
  rw [e]
  have : ((n.toNat : Nat) : Int) = n := by omega
  rw [this]
theorem dat35 {d : Nat} {cs : List AV} (h : Dat prog (d + 2) 35 cs) : ∃ v l, cs = [v] ∧ IsBy v l ∧ (∀ x ∈ l, x < 256) ∧ (l.length : Int) ≤ 9223372036854775807 := by
  rw [Dat] at h
  simp only [u35] at h
  rcases h with rfl | ⟨parts, rfl, hl, hp⟩
  · exact ⟨.nils, [], rfl, .inl ⟨rfl, rfl⟩, by simp, by simp⟩
  · have key : ∀ (parts : List (List AV)), (∀ p ∈ parts, ∃ n : Nat, p = [.int .u8 (n : Nat)] ∧ n < 256) → ∃ l : List Nat, l.length = parts.length ∧ parts.flatten = bytN l ∧ ∀ x ∈ l, x < 256 := by
      intro parts
      induction parts with
      | nil => intro _; exact ⟨[], rfl, rfl, by simp⟩
      | cons p ps ih =>
        intro h
        obtain ⟨n, rfl, hn⟩ := h p (by simp)
        obtain ⟨l, h1, h2, h3⟩ := ih (fun q hq => h q (by simp [hq]))
        exact ⟨n :: l, by simp [h1], by simp [h2, bytN], by intro x hx; rcases List.mem_cons.1 hx with rfl | hx; exact hn; exact h3 x hx⟩
    obtain ⟨l, h1, h2, h3⟩ := key parts (fun p hq => dat5 (hp p hq).2)
    refine ⟨_, l, rfl, .inr ⟨false, by rw [h1, h2]⟩, h3, ?_⟩
    have := mlen
    omega
theorem datV37 {d : Nat} {a : AV} (h : DatV prog (d + 4) 37 a) : ∃ s g : Nat, ∃ q : Nat, ∃ nv l, a = .agg [.int .u8 (s : Nat), .int .u8 (g : Nat), nv, .int .u8 (q : Nat)] ∧ s < 256 ∧ g < 256 ∧ q < 256 ∧ IsBy nv l ∧ (∀ x ∈ l, x < 256) ∧ (l.length : Int) ≤ 9223372036854775807 := by
  simp only [DatV, u37] at h
  obtain ⟨cs, rfl, h⟩ := h
  rw [Dat] at h
  simp only [u37] at h
  obtain ⟨parts, rfl, hl, hp⟩ := h
  match parts, hl with
  | [a, b, c, e], _ =>
    obtain ⟨n0, rfl, h0⟩ := dat5 (hp 0 _ _ rfl rfl).2
    obtain ⟨n1, rfl, h1⟩ := dat5 (hp 1 _ _ rfl rfl).2
    obtain ⟨v, l, rfl, h2, h3, h4⟩ := dat35 (d := d + 1) (hp 2 _ _ rfl rfl).2
    obtain ⟨n3, rfl, h5⟩ := dat5 (hp 3 _ _ rfl rfl).2
    exact ⟨n0, n1, n3, v, l, rfl, h0, h1, h5, h2, h3, h4⟩
end Go.Proofs.Ythnpflkpjimkfaa
