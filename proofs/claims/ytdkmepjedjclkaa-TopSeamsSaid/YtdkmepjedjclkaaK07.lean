/-
  BODIES OF FUNCTIONS OF THE PROGRAM AS SMALL OPERATIONS (written by gen.py; checked by the kernel against the program). Conditions: none.
-/
import Derived.Test.YtdkmepjedjclkaaKAmH
import Derived.Test.YtdkmepjedjclkaaK06
import Derived.Test.YtdkmepjedjclkaaK04
set_option linter.all false
namespace Go.Proofs.Ytdkmepjedjclkaa
open Go.AM
open Go.Proofs.Try (prog)
set_option maxRecDepth 100000
set_option linter.all false
namespace top_TopSeams
noncomputable section
variable (K : List Item) (s : St)
def b : Code := (Try.f13.body).getD .skip
theorem hf : prog.funcs[13]? = some Try.f13 := by kernel_rfl
def r0 := findReg b 0
def r1 := findReg b 1
def r2 := findReg b 2
def k0 := findBlk b 0
def l0 := loopOf k0
def L0 (x0 x1 x2 x7 x8 x9 x10 : AV) (m : Mem) (K : List Item) : Option Res := den prog ann 13 (.code l0 :: .inLoop l0 :: .inBlock 0 :: K) ⟨[(0, x0), (1, x1), (2, x2), (7, x7), (8, x8), (9, x9), (10, x10)], 350, m⟩
def r3 := findReg b 3
def i0 := findCond b 0
def i0t := thenOf i0
def i0e := elseOf i0
def k1 := findBlk b 1
def r5 := findReg b 5
def k2 := findBlk b 2
def l2 := loopOf k2
def L2 (x0 x1 x2 x7 x8 x9 x10 x11 : AV) (m : Mem) (K : List Item) : Option Res := den prog ann 13 (.code l2 :: .inLoop l2 :: .inBlock 2 :: K) ⟨[(0, x0), (1, x1), (2, x2), (7, x7), (8, x8), (9, x9), (10, x10), (11, x11)], 350, m⟩
def r6 := findReg b 6
def i1 := findCond b 1
def i1t := thenOf i1
def i1e := elseOf i1
def k3 := findBlk b 3
def r8 := findReg b 8
def i2 := findCond b 2
def i2t := thenOf i2
def i2e := elseOf i2
def r9 := findReg b 9
def r10 := findReg b 10
def r7 := findReg b 7
def r4 := findReg b 4
def r11 := findReg b 11
def r12 := findReg b 12
def k4 := findBlk b 4
def l4 := loopOf k4
def L4 (x1 x2 x7 x8 x12 x13 x14 : AV) (m : Mem) (K : List Item) : Option Res := den prog ann 13 (.code l4 :: .inLoop l4 :: .inBlock 4 :: K) ⟨[(1, x1), (2, x2), (7, x7), (8, x8), (12, x12), (13, x13), (14, x14)], 350, m⟩
def r13 := findReg b 13
def i3 := findCond b 3
def i3t := thenOf i3
def i3e := elseOf i3
def k5 := findBlk b 5
def r15 := findReg b 15
def r16 := findReg b 16
def i4 := findCond b 4
def i4t := thenOf i4
def i4e := elseOf i4
def r17 := findReg b 17
def r18 := findReg b 18
def r19 := findReg b 19
def k6 := findBlk b 6
def l6 := loopOf k6
def L6 (x1 x2 x7 x8 x12 x13 x14 x15 x16 : AV) (m : Mem) (K : List Item) : Option Res := den prog ann 13 (.code l6 :: .inLoop l6 :: .inBlock 6 :: K) ⟨[(1, x1), (2, x2), (7, x7), (8, x8), (12, x12), (13, x13), (14, x14), (15, x15), (16, x16)], 350, m⟩
def r20 := findReg b 20
def i5 := findCond b 5
def i5t := thenOf i5
def i5e := elseOf i5
def k7 := findBlk b 7
def r22 := findReg b 22
def i6 := findCond b 6
def i6t := thenOf i6
def i6e := elseOf i6
def r23 := findReg b 23
def r21 := findReg b 21
def r14 := findReg b 14
def r24 := findReg b 24
def r25 := findReg b 25
def r26 := findReg b 26
def i7 := findCond b 7
def i7t := thenOf i7
def i7e := elseOf i7
def r27 := findReg b 27
def r28 := findReg b 28
def r29 := findReg b 29
def k8 := findBlk b 8
def l8 := loopOf k8
def L8 (x1 x2 x7 x8 x12 x13 x21 x22 : AV) (m : Mem) (K : List Item) : Option Res := den prog ann 13 (.code l8 :: .inLoop l8 :: .inBlock 8 :: K) ⟨[(1, x1), (2, x2), (7, x7), (8, x8), (12, x12), (13, x13), (21, x21), (22, x22)], 350, m⟩
def r30 := findReg b 30
def i8 := findCond b 8
def i8t := thenOf i8
def i8e := elseOf i8
def k9 := findBlk b 9
def r32 := findReg b 32
def r33 := findReg b 33
def i9 := findCond b 9
def i9t := thenOf i9
def i9e := elseOf i9
def r34 := findReg b 34
def r31 := findReg b 31
def r35 := findReg b 35
def r36 := findReg b 36
def r37 := findReg b 37
def r38 := findReg b 38
def r39 := findReg b 39
def r40 := findReg b 40
def r41 := findReg b 41
def i10 := findCond b 10
def i10t := thenOf i10
def i10e := elseOf i10
def r42 := findReg b 42
def r43 := findReg b 43
def r44 := findReg b 44
def k10 := findBlk b 10
def l10 := loopOf k10
def L10 (x7 x13 x26 x27 x32 x34 x36 x37 x38 : AV) (m : Mem) (K : List Item) : Option Res := den prog ann 13 (.code l10 :: .inLoop l10 :: .inBlock 10 :: K) ⟨[(7, x7), (13, x13), (26, x26), (27, x27), (32, x32), (34, x34), (36, x36), (37, x37), (38, x38)], 350, m⟩
def r45 := findReg b 45
def i11 := findCond b 11
def i11t := thenOf i11
def i11e := elseOf i11
def k11 := findBlk b 11
def r47 := findReg b 47
def r46 := findReg b 46
def r48 := findReg b 48
def r49 := findReg b 49
theorem b_eq : den prog ann 13 (.code b :: K) s = den prog ann 13 (.code r0 :: .code r1 :: .code r2 :: .code k0 :: .code r11 :: .code r12 :: .code k4 :: .code r24 :: .code r25 :: .code r26 :: .code i7 :: .code r28 :: .code r29 :: .code k8 :: .code r35 :: .code r36 :: .code r37 :: .code r38 :: .code r39 :: .code r40 :: .code r41 :: .code i10 :: .code r43 :: .code r44 :: .code k10 :: .code r48 :: .code r49 :: .code .ret :: K) s := den_flat hf (l := [r0, r1, r2, k0, r11, r12, k4, r24, r25, r26, i7, r28, r29, k8, r35, r36, r37, r38, r39, r40, r41, i10, r43, r44, k10, r48, r49, .ret]) (by kernel_rfl) K s
theorem r0_eq : den prog ann 13 (.code r0 :: K) s = mreg prog ann 13 none [] none [] [qF 6 fun s => some (.bool false)] K s := (den_reg hf _ K s).trans (by kernel_rfl)
theorem r1_eq : den prog ann 13 (.code r1 :: K) s = mreg prog ann 13 none [] none [] [⟨some 41, none, .w false none fun s => bslM s.m 0 (bslA 2 0 [.int .i64 0, .int .i64 0] [])⟩,qF 7 fun s => some (.int .i64 4),qC 8 41,qF 9 fun s => some (.int .i64 0)] K s := (den_reg hf _ K s).trans (by kernel_rfl)
theorem r2_eq : den prog ann 13 (.code r2 :: K) s = mreg prog ann 13 none [] none [] [qF 10 fun s => some (.int .i64 0)] K s := (den_reg hf _ K s).trans (by kernel_rfl)
theorem k0_eq (K : List Item) (t : List (Nat × AV)) (m : Mem) : den prog ann 13 (.code k0 :: K) ⟨t, 350, m⟩ = L0 (get t 0) (get t 1) (get t 2) (get t 7) (get t 8) (get t 9) (get t 10) m K := den_loop_enter hf (b := l0) (id := 3) (l := [0, 1, 2, 7, 8, 9, 10]) (by kernel_rfl) (by kernel_rfl) (by kernel_rfl) K _
theorem l0_eq (K : List Item) (t : List (Nat × AV)) (m : Mem) : den prog ann 13 (.inLoop l0 :: .inBlock 0 :: K) ⟨t, 350, m⟩ = L0 (get t 0) (get t 1) (get t 2) (get t 7) (get t 8) (get t 9) (get t 10) m K := den_loop_again hf (id := 3) (l := [0, 1, 2, 7, 8, 9, 10]) (by kernel_rfl) (by kernel_rfl) (.inBlock 0 :: K) _
theorem L0_eq (x0 x1 x2 x7 x8 x9 x10 : AV) (m : Mem) (K : List Item) : L0 x0 x1 x2 x7 x8 x9 x10 m K = den prog ann 13 (.code r3 :: .code i0 :: .code k1 :: .code r4 :: .inLoop l0 :: .inBlock 0 :: K) ⟨[(0, x0), (1, x1), (2, x2), (7, x7), (8, x8), (9, x9), (10, x10)], 350, m⟩ := den_flat hf (l := [r3, i0, k1, r4]) (by kernel_rfl) _ _
theorem r3_eq : den prog ann 13 (.code r3 :: K) s = mreg prog ann 13 (some [0, 1, 2, 7, 8, 9, 10]) [] none [] [qC 42 10,qC 43 7,qB 44 (binA prog .lss 3) 42 43] K s := (den_reg hf _ K s).trans (by kernel_rfl)
theorem i0_eq : den prog ann 13 (.code i0 :: K) s = ifV prog ann 13 44 i0t i0e K s (s.get 44) := den_if hf (by kernel_rfl) K s
theorem i0t_eq : den prog ann 13 (.code i0t :: K) s = den prog ann 13 (K) s := den_flat hf (l := []) (by kernel_rfl) K s
theorem i0e_eq : den prog ann 13 (.code i0e :: K) s = den prog ann 13 (.code (.exit 0) :: K) s := den_flat hf (l := [(.exit 0)]) (by kernel_rfl) K s
theorem k1_eq : den prog ann 13 (.code k1 :: K) s = den prog ann 13 (.code r5 :: .code k2 :: .inBlock 1 :: K) s := den_blk hf (b := blkOf k1) (l := [r5, k2]) (by kernel_rfl) (by kernel_rfl) K s
theorem r5_eq : den prog ann 13 (.code r5 :: K) s = mreg prog ann 13 none [] none [] [qC 47 10,qF 48 fun s => binA prog .add 3 (s.get 47) (.int .i64 1),qC 11 48] K s := (den_reg hf _ K s).trans (by kernel_rfl)
theorem k2_eq (K : List Item) (t : List (Nat × AV)) (m : Mem) : den prog ann 13 (.code k2 :: K) ⟨t, 350, m⟩ = L2 (get t 0) (get t 1) (get t 2) (get t 7) (get t 8) (get t 9) (get t 10) (get t 11) m K := den_loop_enter hf (b := l2) (id := 6) (l := [0, 1, 2, 7, 8, 9, 10, 11]) (by kernel_rfl) (by kernel_rfl) (by kernel_rfl) K _
theorem l2_eq (K : List Item) (t : List (Nat × AV)) (m : Mem) : den prog ann 13 (.inLoop l2 :: .inBlock 2 :: K) ⟨t, 350, m⟩ = L2 (get t 0) (get t 1) (get t 2) (get t 7) (get t 8) (get t 9) (get t 10) (get t 11) m K := den_loop_again hf (id := 6) (l := [0, 1, 2, 7, 8, 9, 10, 11]) (by kernel_rfl) (by kernel_rfl) (.inBlock 2 :: K) _
theorem L2_eq (x0 x1 x2 x7 x8 x9 x10 x11 : AV) (m : Mem) (K : List Item) : L2 x0 x1 x2 x7 x8 x9 x10 x11 m K = den prog ann 13 (.code r6 :: .code i1 :: .code k3 :: .code r7 :: .inLoop l2 :: .inBlock 2 :: K) ⟨[(0, x0), (1, x1), (2, x2), (7, x7), (8, x8), (9, x9), (10, x10), (11, x11)], 350, m⟩ := den_flat hf (l := [r6, i1, k3, r7]) (by kernel_rfl) _ _
theorem r6_eq : den prog ann 13 (.code r6 :: K) s = mreg prog ann 13 (some [0, 1, 2, 7, 8, 9, 10, 11]) [] none [] [qC 49 11,qC 50 7,qB 51 (binA prog .lss 3) 49 50] K s := (den_reg hf _ K s).trans (by kernel_rfl)
theorem i1_eq : den prog ann 13 (.code i1 :: K) s = ifV prog ann 13 51 i1t i1e K s (s.get 51) := den_if hf (by kernel_rfl) K s
theorem i1t_eq : den prog ann 13 (.code i1t :: K) s = den prog ann 13 (K) s := den_flat hf (l := []) (by kernel_rfl) K s
theorem i1e_eq : den prog ann 13 (.code i1e :: K) s = den prog ann 13 (.code (.exit 2) :: K) s := den_flat hf (l := [(.exit 2)]) (by kernel_rfl) K s
theorem k3_eq : den prog ann 13 (.code k3 :: K) s = den prog ann 13 (.code r8 :: .code i2 :: .code r10 :: .inBlock 3 :: K) s := den_blk hf (b := blkOf k3) (l := [r8, i2, r10]) (by kernel_rfl) (by kernel_rfl) K s
theorem r8_eq : den prog ann 13 (.code r8 :: K) s = mreg prog ann 13 none [] none [] [qC 54 0,qC 55 9,qB 56 (binA prog .shr 5) 54 55,qF 57 fun s => binA prog .and 5 (s.get 56) (.int .u8 1),qF 58 fun s => binA prog .eql 5 (s.get 57) (.int .u8 1)] K s := (den_reg hf _ K s).trans (by kernel_rfl)
theorem i2_eq : den prog ann 13 (.code i2 :: K) s = ifV prog ann 13 58 i2t i2e K s (s.get 58) := den_if hf (by kernel_rfl) K s
theorem i2t_eq : den prog ann 13 (.code i2t :: K) s = den prog ann 13 (.code r9 :: K) s := den_flat hf (l := [r9]) (by kernel_rfl) K s
theorem r9_eq : den prog ann 13 (.code r9 :: K) s = mreg prog ann 13 none [] none [] [qC 59 8,qC 60 10,qC 61 11,qF 62 fun s => bldA (plc [(0, 1), (1, 1)]) [.int .i64 0, .int .i64 0] [(0, (s.get 60)), (1, (s.get 61))],qF 63 fun s => bslF 1 (bslA 2 1 [.int .i64 0, .int .i64 0] [(0, (s.get 62))]),⟨some 64, none, .w false none fun s => appendA 2 16 s.m (s.get 59) (s.get 63)⟩,qC 8 64] K s := (den_reg hf _ K s).trans (by kernel_rfl)
theorem i2e_eq : den prog ann 13 (.code i2e :: K) s = den prog ann 13 (K) s := den_flat hf (l := []) (by kernel_rfl) K s
theorem r10_eq : den prog ann 13 (.code r10 :: K) s = mreg prog ann 13 (some [0, 1, 2, 7, 8, 9, 10, 11]) [] none [] [qC 65 9,qF 66 fun s => binA prog .add 3 (s.get 65) (.int .i64 1),qC 9 66] K s := (den_reg hf _ K s).trans (by kernel_rfl)
theorem r7_eq : den prog ann 13 (.code r7 :: K) s = mreg prog ann 13 (some [0, 1, 2, 7, 8, 9, 10, 11]) [] none [] [qC 52 11,qF 53 fun s => binA prog .add 3 (s.get 52) (.int .i64 1),qC 11 53] K s := (den_reg hf _ K s).trans (by kernel_rfl)
theorem r4_eq : den prog ann 13 (.code r4 :: K) s = mreg prog ann 13 (some [0, 1, 2, 7, 8, 9, 10]) [] none [] [qC 45 10,qF 46 fun s => binA prog .add 3 (s.get 45) (.int .i64 1),qC 10 46] K s := (den_reg hf _ K s).trans (by kernel_rfl)
theorem r11_draw : drawOk (fun g => (ann g).pure) (modeOf (ann 13) (idOf r11)) (frzOf (ann 13) (idOf r11)) (opsOf r11) = true := drawOk_of (an := [0, 1, 3, 0, 8, 31]) (by kernel_rfl) (by kernel_rfl)
theorem r11_eq : den prog ann 13 (.code r11 :: K) s = mreg prog ann 13 (some [1, 2, 7, 8]) [] (some 6) [] [qC 67 7,⟨some 68, none, .w false (some 1) fun s => makeA 1 8 (.int .i64 0) s.m (s.get 67) (s.get 67)⟩,qF 69 fun s => bldA (plc [(0, 1), (1, 1)]) [.nils, .nils] [(0, (s.get 68))],⟨some 13, none, .w false (some 3) fun s => newPtr s.m [.nils, .nils]⟩,qF 12 fun s => some (.str []),⟨none, none, .w false (some 5) fun s => stA true 2 s.m (s.get 13) (s.get 69)⟩] K s := (den_regD hf r11_draw K s).trans (by kernel_rfl)
theorem r12_eq : den prog ann 13 (.code r12 :: K) s = mreg prog ann 13 none [] none [] [qF 14 fun s => some (.int .i64 0)] K s := (den_reg hf _ K s).trans (by kernel_rfl)
theorem k4_eq (K : List Item) (t : List (Nat × AV)) (m : Mem) : den prog ann 13 (.code k4 :: K) ⟨t, 350, m⟩ = L4 (get t 1) (get t 2) (get t 7) (get t 8) (get t 12) (get t 13) (get t 14) m K := den_loop_enter hf (b := l4) (id := 13) (l := [1, 2, 7, 8, 12, 13, 14]) (by kernel_rfl) (by kernel_rfl) (by kernel_rfl) K _
theorem l4_eq (K : List Item) (t : List (Nat × AV)) (m : Mem) : den prog ann 13 (.inLoop l4 :: .inBlock 4 :: K) ⟨t, 350, m⟩ = L4 (get t 1) (get t 2) (get t 7) (get t 8) (get t 12) (get t 13) (get t 14) m K := den_loop_again hf (id := 13) (l := [1, 2, 7, 8, 12, 13, 14]) (by kernel_rfl) (by kernel_rfl) (.inBlock 4 :: K) _
theorem L4_eq (x1 x2 x7 x8 x12 x13 x14 : AV) (m : Mem) (K : List Item) : L4 x1 x2 x7 x8 x12 x13 x14 m K = den prog ann 13 (.code r13 :: .code i3 :: .code k5 :: .code r14 :: .inLoop l4 :: .inBlock 4 :: K) ⟨[(1, x1), (2, x2), (7, x7), (8, x8), (12, x12), (13, x13), (14, x14)], 350, m⟩ := den_flat hf (l := [r13, i3, k5, r14]) (by kernel_rfl) _ _
theorem r13_eq : den prog ann 13 (.code r13 :: K) s = mreg prog ann 13 (some [1, 2, 7, 8, 12, 13, 14]) [] none [] [qC 70 14,qC 71 1,qA 72 lenSl 71,qB 73 (binA prog .lss 3) 70 72,qC 74 73,⟨some 75, some (74, true), .v fun s => some (s.get 12)⟩,⟨some 76, some (74, true), .v fun s => lenStr (s.get 75)⟩,⟨some 77, some (74, true), .v fun s => binA prog .lss 3 (s.get 76) (.int .i64 8)⟩,qF 78 fun s => pickA (s.get 74) (s.get 77) (.bool false)] K s := (den_reg hf _ K s).trans (by kernel_rfl)
theorem i3_eq : den prog ann 13 (.code i3 :: K) s = ifV prog ann 13 78 i3t i3e K s (s.get 78) := den_if hf (by kernel_rfl) K s
theorem i3t_eq : den prog ann 13 (.code i3t :: K) s = den prog ann 13 (K) s := den_flat hf (l := []) (by kernel_rfl) K s
theorem i3e_eq : den prog ann 13 (.code i3e :: K) s = den prog ann 13 (.code (.exit 4) :: K) s := den_flat hf (l := [(.exit 4)]) (by kernel_rfl) K s
theorem k5_eq : den prog ann 13 (.code k5 :: K) s = den prog ann 13 (.code r15 :: .code r16 :: .code i4 :: .code r17 :: .code r18 :: .code r19 :: .code k6 :: .inBlock 5 :: K) s := den_blk hf (b := blkOf k5) (l := [r15, r16, i4, r17, r18, r19, k6]) (by kernel_rfl) (by kernel_rfl) K s
theorem r15_eq : den prog ann 13 (.code r15 :: K) s = mreg prog ann 13 none [] none [] [qC 81 1,qC 82 14,qB 83 (idxSl 1) 81 82,qA 84 (loadF false 1) 83,qA 85 (convInt .i64) 84,qC 86 7,qB 87 (binA prog .rem 3) 85 86,qC 15 87] K s := (den_reg hf _ K s).trans (by kernel_rfl)
theorem r16_eq : den prog ann 13 (.code r16 :: K) s = mreg prog ann 13 none [] none [] [qA 88 (fieldA 0) 13,qF 89 fun s => loadA false 1 s.m (s.get 88),qC 90 15,qB 91 (idxSl 1) 89 90,qF 92 fun s => loadA false 1 s.m (s.get 91),qF 93 fun s => binA prog .eql 3 (s.get 92) (.int .i64 6)] K s := (den_reg hf _ K s).trans (by kernel_rfl)
theorem i4_eq : den prog ann 13 (.code i4 :: K) s = ifV prog ann 13 93 i4t i4e K s (s.get 93) := den_if hf (by kernel_rfl) K s
theorem i4t_eq : den prog ann 13 (.code i4t :: K) s = den prog ann 13 (.code (.exit 5) :: K) s := den_flat hf (l := [(.exit 5)]) (by kernel_rfl) K s
theorem i4e_eq : den prog ann 13 (.code i4e :: K) s = den prog ann 13 (K) s := den_flat hf (l := []) (by kernel_rfl) K s
theorem r17_eq : den prog ann 13 (.code r17 :: K) s = mreg prog ann 13 none [] none [] [qC 94 12,qC 95 15,qC 96 15,qF 97 fun s => binA prog .add 3 (s.get 96) (.int .i64 1),qF 98 fun s => sliceStr (.str [97, 98, 99, 100]) (some (s.get 95)) (some (s.get 97)),qB 99 (binA prog .add 9) 94 98,qC 12 99] K s := (den_reg hf _ K s).trans (by kernel_rfl)
theorem r18_eq : den prog ann 13 (.code r18 :: K) s = mreg prog ann 13 none [] none [] [qA 100 (fieldA 0) 13,qF 101 fun s => loadA false 1 s.m (s.get 100),qC 102 15,qB 103 (idxSl 1) 101 102,qF 104 fun s => loadA false 1 s.m (s.get 103),qF 105 fun s => binA prog .add 3 (s.get 104) (.int .i64 1),qB 106 (idxSl 1) 101 102,⟨none, none, .w false none fun s => stA false 1 s.m (s.get 106) (s.get 105)⟩] K s := (den_reg hf _ K s).trans (by kernel_rfl)
theorem r19_eq : den prog ann 13 (.code r19 :: K) s = mreg prog ann 13 none [] none [] [qF 16 fun s => some (.int .i64 0)] K s := (den_reg hf _ K s).trans (by kernel_rfl)
theorem k6_eq (K : List Item) (t : List (Nat × AV)) (m : Mem) : den prog ann 13 (.code k6 :: K) ⟨t, 350, m⟩ = L6 (get t 1) (get t 2) (get t 7) (get t 8) (get t 12) (get t 13) (get t 14) (get t 15) (get t 16) m K := den_loop_enter hf (b := l6) (id := 20) (l := [1, 2, 7, 8, 12, 13, 14, 15, 16]) (by kernel_rfl) (by kernel_rfl) (by kernel_rfl) K _
theorem l6_eq (K : List Item) (t : List (Nat × AV)) (m : Mem) : den prog ann 13 (.inLoop l6 :: .inBlock 6 :: K) ⟨t, 350, m⟩ = L6 (get t 1) (get t 2) (get t 7) (get t 8) (get t 12) (get t 13) (get t 14) (get t 15) (get t 16) m K := den_loop_again hf (id := 20) (l := [1, 2, 7, 8, 12, 13, 14, 15, 16]) (by kernel_rfl) (by kernel_rfl) (.inBlock 6 :: K) _
theorem L6_eq (x1 x2 x7 x8 x12 x13 x14 x15 x16 : AV) (m : Mem) (K : List Item) : L6 x1 x2 x7 x8 x12 x13 x14 x15 x16 m K = den prog ann 13 (.code r20 :: .code i5 :: .code k7 :: .code r21 :: .inLoop l6 :: .inBlock 6 :: K) ⟨[(1, x1), (2, x2), (7, x7), (8, x8), (12, x12), (13, x13), (14, x14), (15, x15), (16, x16)], 350, m⟩ := den_flat hf (l := [r20, i5, k7, r21]) (by kernel_rfl) _ _
theorem r20_eq : den prog ann 13 (.code r20 :: K) s = mreg prog ann 13 (some [1, 2, 7, 8, 12, 13, 14, 15, 16]) [] none [] [qC 107 16,qC 108 7,qB 109 (binA prog .lss 3) 107 108] K s := (den_reg hf _ K s).trans (by kernel_rfl)
theorem i5_eq : den prog ann 13 (.code i5 :: K) s = ifV prog ann 13 109 i5t i5e K s (s.get 109) := den_if hf (by kernel_rfl) K s
theorem i5t_eq : den prog ann 13 (.code i5t :: K) s = den prog ann 13 (K) s := den_flat hf (l := []) (by kernel_rfl) K s
theorem i5e_eq : den prog ann 13 (.code i5e :: K) s = den prog ann 13 (.code (.exit 6) :: K) s := den_flat hf (l := [(.exit 6)]) (by kernel_rfl) K s
theorem k7_eq : den prog ann 13 (.code k7 :: K) s = den prog ann 13 (.code r22 :: .code i6 :: .inBlock 7 :: K) s := den_blk hf (b := blkOf k7) (l := [r22, i6]) (by kernel_rfl) (by kernel_rfl) K s
theorem r22_draw : drawOk (fun g => (ann g).pure) (modeOf (ann 13) (idOf r22)) (frzOf (ann 13) (idOf r22)) (opsOf r22) = true := drawOk_of (an := [0, 0, 3, 7, 15, 31, 15, 127, 255, 511, 1023, 2047, 4095, 4095, 12287, 4095, 36863, 131071, 262143, 524287]) (by kernel_rfl) (by kernel_rfl)
theorem r22_eq : den prog ann 13 (.code r22 :: K) s = mreg prog ann 13 none [] (some 20) [] [qC 112 16,qC 113 15,qB 114 (binA prog .neq 3) 112 113,qC 115 114,⟨some 116, some (115, true), .v fun s => fieldA 0 (s.get 13)⟩,⟨some 117, some (115, true), .v fun s => loadA false 1 s.m (s.get 116)⟩,⟨some 118, some (115, true), .v fun s => some (s.get 16)⟩,⟨some 119, some (115, true), .v fun s => idxSl 1 (s.get 117) (s.get 118)⟩,⟨some 120, some (115, true), .v fun s => loadA false 1 s.m (s.get 119)⟩,⟨some 121, some (115, true), .v fun s => binA prog .gtr 3 (s.get 120) (.int .i64 0)⟩,qF 122 fun s => pickA (s.get 115) (s.get 121) (.bool false),qC 123 122,⟨some 124, some (123, true), .v fun s => some (s.get 8)⟩,⟨some 125, some (123, true), .v fun s => some (s.get 16)⟩,⟨some 126, some (123, true), .v fun s => idxStr (.str [97, 98, 99, 100]) (s.get 125)⟩,⟨some 127, some (123, true), .v fun s => some (s.get 15)⟩,⟨some 128, some (123, true), .v fun s => idxStr (.str [97, 98, 99, 100]) (s.get 127)⟩,⟨some 129, some (123, true), .c 0 (fun s => (.fn 50 [] [])) fun s => [(s.get 124), (s.get 126), (s.get 128)]⟩,⟨some 130, some (123, true), .v fun s => unA .not (s.get 129)⟩,qF 131 fun s => pickA (s.get 123) (s.get 130) (.bool false)] K s := (den_regD hf r22_draw K s).trans (by kernel_rfl)
theorem i6_eq : den prog ann 13 (.code i6 :: K) s = ifV prog ann 13 131 i6t i6e K s (s.get 131) := den_if hf (by kernel_rfl) K s
theorem i6t_eq : den prog ann 13 (.code i6t :: K) s = den prog ann 13 (.code r23 :: K) s := den_flat hf (l := [r23]) (by kernel_rfl) K s
theorem r23_draw : drawOk (fun g => (ann g).pure) (modeOf (ann 13) (idOf r23)) (frzOf (ann 13) (idOf r23)) (opsOf r23) = true := drawOk_of (an := [0, 1, 0, 0, 8, 0, 56, 120, 0, 0, 512, 0, 3584, 7680, 16380, 32764, 65535, 131071, 262143]) (by kernel_rfl) (by kernel_rfl)
theorem r23_eq : den prog ann 13 (.code r23 :: K) s = mreg prog ann 13 none [] (some 19) [] [qA 132 (fieldA 1) 13,qF 133 fun s => loadA false 1 s.m (s.get 132),qC 134 16,qA 135 (fieldA 0) 13,qF 136 fun s => loadA false 1 s.m (s.get 135),qC 137 16,qB 138 (idxSl 1) 136 137,qF 139 fun s => loadA false 1 s.m (s.get 138),qC 140 15,qA 141 (fieldA 0) 13,qF 142 fun s => loadA false 1 s.m (s.get 141),qC 143 15,qB 144 (idxSl 1) 142 143,qF 145 fun s => loadA false 1 s.m (s.get 144),qF 146 fun s => bldA (plc [(0, 1), (1, 1), (2, 1), (3, 1)]) [.int .i64 0, .int .i64 0, .int .i64 0, .int .i64 0] [(0, (s.get 134)), (1, (s.get 139)), (2, (s.get 140)), (3, (s.get 145))],qF 147 fun s => bslF 1 (bslA 4 1 [.int .i64 0, .int .i64 0, .int .i64 0, .int .i64 0] [(0, (s.get 146))]),⟨some 148, none, .w false (some 16) fun s => appendA 4 32 s.m (s.get 133) (s.get 147)⟩,qA 149 (fieldA 1) 13,⟨none, none, .w false (some 18) fun s => stA false 1 s.m (s.get 149) (s.get 148)⟩] K s := (den_regD hf r23_draw K s).trans (by kernel_rfl)
theorem i6e_eq : den prog ann 13 (.code i6e :: K) s = den prog ann 13 (K) s := den_flat hf (l := []) (by kernel_rfl) K s
theorem r21_eq : den prog ann 13 (.code r21 :: K) s = mreg prog ann 13 (some [1, 2, 7, 8, 12, 13, 14, 15, 16]) [] none [] [qC 110 16,qF 111 fun s => binA prog .add 3 (s.get 110) (.int .i64 1),qC 16 111] K s := (den_reg hf _ K s).trans (by kernel_rfl)
theorem r14_eq : den prog ann 13 (.code r14 :: K) s = mreg prog ann 13 (some [1, 2, 7, 8, 12, 13, 14]) [] none [] [qC 79 14,qF 80 fun s => binA prog .add 3 (s.get 79) (.int .i64 1),qC 14 80] K s := (den_reg hf _ K s).trans (by kernel_rfl)
theorem r24_eq : den prog ann 13 (.code r24 :: K) s = mreg prog ann 13 (some [1, 2, 7, 8, 12, 13]) [] none [] [qC 151 7,qC 152 8,qC 153 12,⟨some 154, none, .c 0 (fun s => (.fn 51 [] [])) fun s => [(s.get 151), (s.get 152), (s.get 153)]⟩,qC 150 154,qF 155 fun s => extA (s.get 150) 0,qF 156 fun s => extA (s.get 150) 1,qC 17 155,qC 18 156] K s := (den_reg hf _ K s).trans (by kernel_rfl)
theorem r25_eq : den prog ann 13 (.code r25 :: K) s = mreg prog ann 13 none [] none [] [qF 158 fun s => loadA true 2 s.m (s.get 13),⟨some 159, none, .c 0 (fun s => (.fn 36 [] [])) fun s => [(s.get 158)]⟩,qC 157 159,qF 160 fun s => extA (s.get 157) 0,qF 161 fun s => extA (s.get 157) 1,qC 19 160,qC 20 161] K s := (den_reg hf _ K s).trans (by kernel_rfl)
theorem r26_eq : den prog ann 13 (.code r26 :: K) s = mreg prog ann 13 none [] none [] [qC 162 18,qF 163 fun s => binA prog .neq 27 (s.get 162) (.int .i64 0),qC 164 163,⟨some 165, some (164, false), .v fun s => some (s.get 20)⟩,⟨some 166, some (164, false), .v fun s => binA prog .neq 27 (s.get 165) (.int .i64 0)⟩,qF 167 fun s => pickA (s.get 164) (.bool true) (s.get 166),qC 168 167,⟨some 169, some (168, false), .v fun s => some (s.get 17)⟩,⟨some 170, some (168, false), .v fun s => some (s.get 19)⟩,⟨some 171, some (168, false), .v fun s => binA prog .neq 3 (s.get 169) (s.get 170)⟩,qF 172 fun s => pickA (s.get 168) (.bool true) (s.get 171)] K s := (den_reg hf _ K s).trans (by kernel_rfl)
theorem i7_eq : den prog ann 13 (.code i7 :: K) s = ifV prog ann 13 172 i7t i7e K s (s.get 172) := den_if hf (by kernel_rfl) K s
theorem i7t_eq : den prog ann 13 (.code i7t :: K) s = den prog ann 13 (.code r27 :: .code .ret :: K) s := den_flat hf (l := [r27, .ret]) (by kernel_rfl) K s
theorem r27_eq : den prog ann 13 (.code r27 :: K) s = mreg prog ann 13 none [] none [] [qF 6 fun s => some (.bool false)] K s := (den_reg hf _ K s).trans (by kernel_rfl)
theorem i7e_eq : den prog ann 13 (.code i7e :: K) s = den prog ann 13 (K) s := den_flat hf (l := []) (by kernel_rfl) K s
theorem r28_eq : den prog ann 13 (.code r28 :: K) s = mreg prog ann 13 none [] none [] [qC 173 12,qC 21 173] K s := (den_reg hf _ K s).trans (by kernel_rfl)
theorem r29_eq : den prog ann 13 (.code r29 :: K) s = mreg prog ann 13 none [] none [] [qF 22 fun s => some (.int .i64 0)] K s := (den_reg hf _ K s).trans (by kernel_rfl)
theorem k8_eq (K : List Item) (t : List (Nat × AV)) (m : Mem) : den prog ann 13 (.code k8 :: K) ⟨t, 350, m⟩ = L8 (get t 1) (get t 2) (get t 7) (get t 8) (get t 12) (get t 13) (get t 21) (get t 22) m K := den_loop_enter hf (b := l8) (id := 30) (l := [1, 2, 7, 8, 12, 13, 21, 22]) (by kernel_rfl) (by kernel_rfl) (by kernel_rfl) K _
theorem l8_eq (K : List Item) (t : List (Nat × AV)) (m : Mem) : den prog ann 13 (.inLoop l8 :: .inBlock 8 :: K) ⟨t, 350, m⟩ = L8 (get t 1) (get t 2) (get t 7) (get t 8) (get t 12) (get t 13) (get t 21) (get t 22) m K := den_loop_again hf (id := 30) (l := [1, 2, 7, 8, 12, 13, 21, 22]) (by kernel_rfl) (by kernel_rfl) (.inBlock 8 :: K) _
theorem L8_eq (x1 x2 x7 x8 x12 x13 x21 x22 : AV) (m : Mem) (K : List Item) : L8 x1 x2 x7 x8 x12 x13 x21 x22 m K = den prog ann 13 (.code r30 :: .code i8 :: .code k9 :: .code r31 :: .inLoop l8 :: .inBlock 8 :: K) ⟨[(1, x1), (2, x2), (7, x7), (8, x8), (12, x12), (13, x13), (21, x21), (22, x22)], 350, m⟩ := den_flat hf (l := [r30, i8, k9, r31]) (by kernel_rfl) _ _
theorem r30_eq : den prog ann 13 (.code r30 :: K) s = mreg prog ann 13 (some [1, 2, 7, 8, 12, 13, 21, 22]) [] none [] [qC 174 22,qC 175 2,qA 176 lenSl 175,qB 177 (binA prog .lss 3) 174 176,qC 178 177,⟨some 179, some (178, true), .v fun s => some (s.get 21)⟩,⟨some 180, some (178, true), .v fun s => lenStr (s.get 179)⟩,⟨some 181, some (178, true), .v fun s => binA prog .gtr 3 (s.get 180) (.int .i64 1)⟩,qF 182 fun s => pickA (s.get 178) (s.get 181) (.bool false)] K s := (den_reg hf _ K s).trans (by kernel_rfl)
theorem i8_eq : den prog ann 13 (.code i8 :: K) s = ifV prog ann 13 182 i8t i8e K s (s.get 182) := den_if hf (by kernel_rfl) K s
theorem i8t_eq : den prog ann 13 (.code i8t :: K) s = den prog ann 13 (K) s := den_flat hf (l := []) (by kernel_rfl) K s
theorem i8e_eq : den prog ann 13 (.code i8e :: K) s = den prog ann 13 (.code (.exit 8) :: K) s := den_flat hf (l := [(.exit 8)]) (by kernel_rfl) K s
theorem k9_eq : den prog ann 13 (.code k9 :: K) s = den prog ann 13 (.code r32 :: .code r33 :: .code i9 :: .inBlock 9 :: K) s := den_blk hf (b := blkOf k9) (l := [r32, r33, i9]) (by kernel_rfl) (by kernel_rfl) K s
theorem r32_eq : den prog ann 13 (.code r32 :: K) s = mreg prog ann 13 none [] none [] [qC 185 2,qC 186 22,qB 187 (idxSl 1) 185 186,qA 188 (loadF false 1) 187,qA 189 (convInt .i64) 188,qC 190 21,qA 191 lenStr 190,qF 192 fun s => binA prog .sub 3 (s.get 191) (.int .i64 1),qB 193 (binA prog .rem 3) 189 192,qC 23 193] K s := (den_reg hf _ K s).trans (by kernel_rfl)
theorem r33_draw : drawOk (fun g => (ann g).pure) (modeOf (ann 13) (idOf r33)) (frzOf (ann 13) (idOf r33)) (opsOf r33) = true := drawOk_of (an := [0, 0, 0, 6, 0, 0, 32, 112, 255]) (by kernel_rfl) (by kernel_rfl)
theorem r33_eq : den prog ann 13 (.code r33 :: K) s = mreg prog ann 13 none [] (some 9) [] [qC 194 8,qC 195 21,qC 196 23,qB 197 idxStr 195 196,qC 198 21,qC 199 23,qF 200 fun s => binA prog .add 3 (s.get 199) (.int .i64 1),qB 201 idxStr 198 200,⟨some 202, none, .c 0 (fun s => (.fn 50 [] [])) fun s => [(s.get 194), (s.get 197), (s.get 201)]⟩] K s := (den_regD hf r33_draw K s).trans (by kernel_rfl)
theorem i9_eq : den prog ann 13 (.code i9 :: K) s = ifV prog ann 13 202 i9t i9e K s (s.get 202) := den_if hf (by kernel_rfl) K s
theorem i9t_eq : den prog ann 13 (.code i9t :: K) s = den prog ann 13 (.code r34 :: K) s := den_flat hf (l := [r34]) (by kernel_rfl) K s
theorem r34_draw : drawOk (fun g => (ann g).pure) (modeOf (ann 13) (idOf r34)) (frzOf (ann 13) (idOf r34)) (opsOf r34) = true := drawOk_of (an := [0, 0, 3, 0, 0, 16, 0, 64, 248, 511, 0, 0, 0, 4096, 15360, 32767, 0, 0, 131072, 458752, 1048575, 2097151]) (by kernel_rfl) (by kernel_rfl)
theorem r34_eq : den prog ann 13 (.code r34 :: K) s = mreg prog ann 13 none [] (some 22) [] [qC 203 21,qC 204 23,qF 205 fun s => sliceStr (s.get 203) none (some (s.get 204)),qC 206 21,qC 207 23,qF 208 fun s => binA prog .add 3 (s.get 207) (.int .i64 1),qC 209 23,qF 210 fun s => binA prog .add 3 (s.get 209) (.int .i64 2),qF 211 fun s => sliceStr (s.get 206) (some (s.get 208)) (some (s.get 210)),qB 212 (binA prog .add 9) 205 211,qC 213 21,qC 214 23,qC 215 23,qF 216 fun s => binA prog .add 3 (s.get 215) (.int .i64 1),qF 217 fun s => sliceStr (s.get 213) (some (s.get 214)) (some (s.get 216)),qB 218 (binA prog .add 9) 212 217,qC 219 21,qC 220 23,qF 221 fun s => binA prog .add 3 (s.get 220) (.int .i64 2),qF 222 fun s => sliceStr (s.get 219) (some (s.get 221)) none,qB 223 (binA prog .add 9) 218 222,qC 21 223] K s := (den_regD hf r34_draw K s).trans (by kernel_rfl)
theorem i9e_eq : den prog ann 13 (.code i9e :: K) s = den prog ann 13 (K) s := den_flat hf (l := []) (by kernel_rfl) K s
theorem r31_eq : den prog ann 13 (.code r31 :: K) s = mreg prog ann 13 (some [1, 2, 7, 8, 12, 13, 21, 22]) [] none [] [qC 183 22,qF 184 fun s => binA prog .add 3 (s.get 183) (.int .i64 1),qC 22 184] K s := (den_reg hf _ K s).trans (by kernel_rfl)
theorem r35_draw : drawOk (fun g => (ann g).pure) (modeOf (ann 13) (idOf r35)) (frzOf (ann 13) (idOf r35)) (opsOf r35) = true := drawOk_of (an := [0, 0, 2, 0, 8, 24, 62, 127, 0, 0, 512, 1536, 0, 4096, 12288, 32256, 65280, 255, 262143]) (by kernel_rfl) (by kernel_rfl)
theorem r35_eq : den prog ann 13 (.code r35 :: K) s = mreg prog ann 13 (some [1, 2, 7, 8, 12, 13, 21]) [] (some 19) [] [qC 224 12,qC 225 2,qA 226 lenSl 225,qC 227 12,qA 228 lenStr 227,qF 229 fun s => binA prog .add 3 (s.get 228) (.int .i64 1),qB 230 (binA prog .rem 3) 226 229,qF 231 fun s => sliceStr (s.get 224) none (some (s.get 230)),qC 232 21,qC 233 1,qA 234 lenSl 233,qF 235 fun s => binA prog .mul 3 (s.get 234) (.int .i64 3),qC 236 21,qA 237 lenStr 236,qF 238 fun s => binA prog .add 3 (s.get 237) (.int .i64 1),qB 239 (binA prog .rem 3) 235 238,qF 240 fun s => sliceStr (s.get 232) none (some (s.get 239)),qC 24 231,qC 25 240] K s := (den_regD hf r35_draw K s).trans (by kernel_rfl)
theorem r36_eq : den prog ann 13 (.code r36 :: K) s = mreg prog ann 13 none [] none [] [qC 241 24,⟨some 242, none, .c 0 (fun s => (.fn 52 [] [])) fun s => [(s.get 241)]⟩,qC 243 25,⟨some 244, none, .c 0 (fun s => (.fn 52 [] [])) fun s => [(s.get 243)]⟩,qC 26 242,qC 27 244] K s := (den_reg hf _ K s).trans (by kernel_rfl)
theorem r37_eq : den prog ann 13 (.code r37 :: K) s = mreg prog ann 13 none [] none [] [qF 246 fun s => loadA true 2 s.m (s.get 13),qC 247 26,⟨some 248, none, .c 0 (fun s => (.fn 30 [] [])) fun s => [(s.get 246), (s.get 247)]⟩,qC 245 248,qF 249 fun s => extA (s.get 245) 0,qF 250 fun s => extA (s.get 245) 1,qC 28 249,qC 29 250] K s := (den_reg hf _ K s).trans (by kernel_rfl)
theorem r38_eq : den prog ann 13 (.code r38 :: K) s = mreg prog ann 13 none [] none [] [qF 252 fun s => loadA true 2 s.m (s.get 13),qC 253 27,⟨some 254, none, .c 0 (fun s => (.fn 30 [] [])) fun s => [(s.get 252), (s.get 253)]⟩,qC 251 254,qF 255 fun s => extA (s.get 251) 0,qF 256 fun s => extA (s.get 251) 1,qC 30 255,qC 31 256] K s := (den_reg hf _ K s).trans (by kernel_rfl)
theorem r39_eq : den prog ann 13 (.code r39 :: K) s = mreg prog ann 13 none [] none [] [qC 258 7,qC 259 8,qC 260 24,qC 261 25,⟨some 262, none, .c 0 (fun s => (.fn 53 [] [])) fun s => [(s.get 258), (s.get 259), (s.get 260), (s.get 261)]⟩,qC 257 262,qF 263 fun s => extA (s.get 257) 0,qF 264 fun s => extA (s.get 257) 1,qC 32 263,qC 33 264] K s := (den_reg hf _ K s).trans (by kernel_rfl)
theorem r40_eq : den prog ann 13 (.code r40 :: K) s = mreg prog ann 13 none [] none [] [qC 266 7,qC 267 8,qC 268 24,qC 269 25,⟨some 270, none, .c 0 (fun s => (.fn 54 [] [])) fun s => [(s.get 266), (s.get 267), (s.get 268), (s.get 269)]⟩,qC 265 270,qF 271 fun s => extA (s.get 265) 0,qF 272 fun s => extA (s.get 265) 1,qC 34 271,qC 35 272] K s := (den_reg hf _ K s).trans (by kernel_rfl)
theorem r41_eq : den prog ann 13 (.code r41 :: K) s = mreg prog ann 13 none [] none [] [qC 273 28,qA 274 (unA .not) 273,qC 275 274,⟨some 276, some (275, false), .v fun s => some (s.get 30)⟩,⟨some 277, some (275, false), .v fun s => unA .not (s.get 276)⟩,qF 278 fun s => pickA (s.get 275) (.bool true) (s.get 277),qC 279 278,⟨some 280, some (279, false), .v fun s => some (s.get 29)⟩,⟨some 281, some (279, false), .v fun s => binA prog .neq 27 (s.get 280) (.int .i64 0)⟩,qF 282 fun s => pickA (s.get 279) (.bool true) (s.get 281),qC 283 282,⟨some 284, some (283, false), .v fun s => some (s.get 31)⟩,⟨some 285, some (283, false), .v fun s => binA prog .neq 27 (s.get 284) (.int .i64 0)⟩,qF 286 fun s => pickA (s.get 283) (.bool true) (s.get 285),qC 287 286,⟨some 288, some (287, false), .v fun s => some (s.get 33)⟩,⟨some 289, some (287, false), .v fun s => binA prog .neq 27 (s.get 288) (.int .i64 0)⟩,qF 290 fun s => pickA (s.get 287) (.bool true) (s.get 289),qC 291 290,⟨some 292, some (291, false), .v fun s => some (s.get 35)⟩,⟨some 293, some (291, false), .v fun s => binA prog .neq 27 (s.get 292) (.int .i64 0)⟩,qF 294 fun s => pickA (s.get 291) (.bool true) (s.get 293)] K s := (den_reg hf _ K s).trans (by kernel_rfl)
theorem i10_eq : den prog ann 13 (.code i10 :: K) s = ifV prog ann 13 294 i10t i10e K s (s.get 294) := den_if hf (by kernel_rfl) K s
theorem i10t_eq : den prog ann 13 (.code i10t :: K) s = den prog ann 13 (.code r42 :: .code .ret :: K) s := den_flat hf (l := [r42, .ret]) (by kernel_rfl) K s
theorem r42_eq : den prog ann 13 (.code r42 :: K) s = mreg prog ann 13 none [] none [] [qF 6 fun s => some (.bool false)] K s := (den_reg hf _ K s).trans (by kernel_rfl)
theorem i10e_eq : den prog ann 13 (.code i10e :: K) s = den prog ann 13 (K) s := den_flat hf (l := []) (by kernel_rfl) K s
theorem r43_eq : den prog ann 13 (.code r43 :: K) s = mreg prog ann 13 none [] none [] [⟨some 295, none, .w false none fun s => bslM s.m 0 (bslA 1 0 [.int .i64 0] [])⟩,⟨some 296, none, .w false none fun s => bslM s.m 0 (bslA 1 0 [.int .i64 0] [])⟩,qC 36 295,qC 37 296] K s := (den_reg hf _ K s).trans (by kernel_rfl)
theorem r44_eq : den prog ann 13 (.code r44 :: K) s = mreg prog ann 13 none [] none [] [qF 38 fun s => some (.int .i64 0)] K s := (den_reg hf _ K s).trans (by kernel_rfl)
theorem k10_eq (K : List Item) (t : List (Nat × AV)) (m : Mem) : den prog ann 13 (.code k10 :: K) ⟨t, 350, m⟩ = L10 (get t 7) (get t 13) (get t 26) (get t 27) (get t 32) (get t 34) (get t 36) (get t 37) (get t 38) m K := den_loop_enter hf (b := l10) (id := 45) (l := [7, 13, 26, 27, 32, 34, 36, 37, 38]) (by kernel_rfl) (by kernel_rfl) (by kernel_rfl) K _
theorem l10_eq (K : List Item) (t : List (Nat × AV)) (m : Mem) : den prog ann 13 (.inLoop l10 :: .inBlock 10 :: K) ⟨t, 350, m⟩ = L10 (get t 7) (get t 13) (get t 26) (get t 27) (get t 32) (get t 34) (get t 36) (get t 37) (get t 38) m K := den_loop_again hf (id := 45) (l := [7, 13, 26, 27, 32, 34, 36, 37, 38]) (by kernel_rfl) (by kernel_rfl) (.inBlock 10 :: K) _
theorem L10_eq (x7 x13 x26 x27 x32 x34 x36 x37 x38 : AV) (m : Mem) (K : List Item) : L10 x7 x13 x26 x27 x32 x34 x36 x37 x38 m K = den prog ann 13 (.code r45 :: .code i11 :: .code k11 :: .code r46 :: .inLoop l10 :: .inBlock 10 :: K) ⟨[(7, x7), (13, x13), (26, x26), (27, x27), (32, x32), (34, x34), (36, x36), (37, x37), (38, x38)], 350, m⟩ := den_flat hf (l := [r45, i11, k11, r46]) (by kernel_rfl) _ _
theorem r45_eq : den prog ann 13 (.code r45 :: K) s = mreg prog ann 13 (some [7, 13, 26, 27, 32, 34, 36, 37, 38]) [] none [] [qC 297 38,qC 298 7,qB 299 (binA prog .lss 3) 297 298] K s := (den_reg hf _ K s).trans (by kernel_rfl)
theorem i11_eq : den prog ann 13 (.code i11 :: K) s = ifV prog ann 13 299 i11t i11e K s (s.get 299) := den_if hf (by kernel_rfl) K s
theorem i11t_eq : den prog ann 13 (.code i11t :: K) s = den prog ann 13 (K) s := den_flat hf (l := []) (by kernel_rfl) K s
theorem i11e_eq : den prog ann 13 (.code i11e :: K) s = den prog ann 13 (.code (.exit 10) :: K) s := den_flat hf (l := [(.exit 10)]) (by kernel_rfl) K s
theorem k11_eq : den prog ann 13 (.code k11 :: K) s = den prog ann 13 (.code r47 :: .inBlock 11 :: K) s := den_blk hf (b := blkOf k11) (l := [r47]) (by kernel_rfl) (by kernel_rfl) K s
theorem r47_draw : drawOk (fun g => (ann g).pure) (modeOf (ann 13) (idOf r47)) (frzOf (ann 13) (idOf r47)) (opsOf r47) = true := drawOk_of (an := [0, 0, 0, 6, 14, 0, 0, 96, 224, 510, 1022, 2047, 0, 0, 0, 24576, 57344, 0, 0, 393216, 917504, 2088960, 4186112, 8388607, 16777215, 33554431]) (by kernel_rfl) (by kernel_rfl)
theorem r47_eq : den prog ann 13 (.code r47 :: K) s = mreg prog ann 13 none [] (some 26) [] [qC 302 36,qC 303 26,qC 304 38,qB 305 (idxSl 1) 303 304,qA 306 (loadF false 1) 305,qC 307 27,qC 308 38,qB 309 (idxSl 1) 307 308,qA 310 (loadF false 1) 309,qF 311 fun s => foldA min2A (s.get 306) [(s.get 310)],qF 312 fun s => bslF 1 (bslA 1 1 [.int .i64 0] [(0, (s.get 311))]),⟨some 313, none, .w false (some 11) fun s => appendA 1 8 s.m (s.get 302) (s.get 312)⟩,qC 314 37,qC 315 26,qC 316 38,qB 317 (idxSl 1) 315 316,qA 318 (loadF false 1) 317,qC 319 27,qC 320 38,qB 321 (idxSl 1) 319 320,qA 322 (loadF false 1) 321,qF 323 fun s => foldA max2A (s.get 318) [(s.get 322)],qF 324 fun s => bslF 1 (bslA 1 1 [.int .i64 0] [(0, (s.get 323))]),⟨some 325, none, .w false (some 23) fun s => appendA 1 8 s.m (s.get 314) (s.get 324)⟩,qC 36 313,qC 37 325] K s := (den_regD hf r47_draw K s).trans (by kernel_rfl)
theorem r46_eq : den prog ann 13 (.code r46 :: K) s = mreg prog ann 13 (some [7, 13, 26, 27, 32, 34, 36, 37, 38]) [] none [] [qC 300 38,qF 301 fun s => binA prog .add 3 (s.get 300) (.int .i64 1),qC 38 301] K s := (den_reg hf _ K s).trans (by kernel_rfl)
theorem r48_eq : den prog ann 13 (.code r48 :: K) s = mreg prog ann 13 (some [13, 32, 34, 36, 37]) [] none [] [qF 327 fun s => loadA true 2 s.m (s.get 13),qC 328 36,⟨some 329, none, .c 0 (fun s => (.fn 45 [] [])) fun s => [(s.get 327), (s.get 328)]⟩,qC 326 329,qF 330 fun s => extA (s.get 326) 0,qF 331 fun s => extA (s.get 326) 1,qC 39 330,qC 40 331] K s := (den_reg hf _ K s).trans (by kernel_rfl)
theorem r49_eq : den prog ann 13 (.code r49 :: K) s = mreg prog ann 13 none [] none [] [qC 332 32,⟨some 333, none, .c 0 (fun s => (.fn 52 [] [])) fun s => [(s.get 332)]⟩,qC 334 36,⟨some 335, none, .c 0 (fun s => (.fn 21 [] [])) fun s => [(s.get 333), (s.get 334)]⟩,qC 336 335,⟨some 337, some (336, true), .v fun s => some (s.get 34)⟩,⟨some 338, some (336, true), .c 0 (fun s => (.fn 52 [] [])) fun s => [(s.get 337)]⟩,⟨some 339, some (336, true), .v fun s => some (s.get 37)⟩,⟨some 340, some (336, true), .c 0 (fun s => (.fn 21 [] [])) fun s => [(s.get 338), (s.get 339)]⟩,qF 341 fun s => pickA (s.get 336) (s.get 340) (.bool false),qC 342 341,⟨some 343, some (342, true), .v fun s => some (s.get 40)⟩,⟨some 344, some (342, true), .v fun s => binA prog .eql 27 (s.get 343) (.int .i64 0)⟩,qF 345 fun s => pickA (s.get 342) (s.get 344) (.bool false),qC 346 345,⟨some 347, some (346, true), .v fun s => some (s.get 39)⟩,⟨some 348, some (346, true), .v fun s => binA prog .geq 3 (s.get 347) (.int .i64 0)⟩,qF 349 fun s => pickA (s.get 346) (s.get 348) (.bool false),qC 6 349] K s := (den_reg hf _ K s).trans (by kernel_rfl)
theorem ret_eq : den prog ann 13 (.code .ret :: K) s = finM true [fun s => some (s.get 6)] s := (den_ret hf K s).trans (by kernel_rfl)
theorem nil_eq (s : St) : den prog ann 13 [] s = finM true [fun s => some (s.get 6)] s := (den_nil hf s).trans (by kernel_rfl)
theorem inBlock_eq (id : Nat) (K : List Item) (s : St) : den prog ann 13 (.inBlock id :: K) s = den prog ann 13 K s := den_inBlock hf id K s
theorem exit_eq (id : Nat) (K : List Item) (s : St) : den prog ann 13 (.code (.exit id) :: K) s = exitV prog ann 13 (exitTo id K) s := den_exitV hf id K s
theorem call_eq (v0 v1 v2 : AV) (m : Mem) (h : closedL [v0, v1, v2] = true) : denC prog ann 13 [v0, v1, v2] m = (den prog ann 13 [.code b] ⟨[(0, v0), (1, v1), (2, v2)], 350, Mem.empty⟩).bind fun r => some (r.1, m) := (denC_pure hf (b := b) (by kernel_rfl) (by kernel_rfl) (by kernel_rfl) h m).trans (by kernel_rfl)
theorem pure_eq : (ann 13).pure = true := by kernel_rfl
attribute [simp] b_eq r0_eq r1_eq r2_eq k0_eq l0_eq r3_eq i0_eq i0t_eq i0e_eq k1_eq r5_eq k2_eq l2_eq r6_eq i1_eq i1t_eq i1e_eq k3_eq r8_eq i2_eq i2t_eq r9_eq i2e_eq r10_eq r7_eq r4_eq r11_eq r12_eq k4_eq l4_eq r13_eq i3_eq i3t_eq i3e_eq k5_eq r15_eq r16_eq i4_eq i4t_eq i4e_eq r17_eq r18_eq r19_eq k6_eq l6_eq r20_eq i5_eq i5t_eq i5e_eq k7_eq r22_eq i6_eq i6t_eq r23_eq i6e_eq r21_eq r14_eq r24_eq r25_eq r26_eq i7_eq i7t_eq r27_eq i7e_eq r28_eq r29_eq k8_eq l8_eq r30_eq i8_eq i8t_eq i8e_eq k9_eq r32_eq r33_eq i9_eq i9t_eq r34_eq i9e_eq r31_eq r35_eq r36_eq r37_eq r38_eq r39_eq r40_eq r41_eq i10_eq i10t_eq r42_eq i10e_eq r43_eq r44_eq k10_eq l10_eq r45_eq i11_eq i11t_eq i11e_eq k11_eq r47_eq r46_eq r48_eq r49_eq ret_eq nil_eq inBlock_eq exit_eq pure_eq
end
end top_TopSeams
end Go.Proofs.Ytdkmepjedjclkaa

/-
  TopSeams (1): the pairs. Conditions: none.
-/
namespace Go.Proofs.Ytdkmepjedjclkaa
open Go.AM
open Go.Proofs.Try (prog)
set_option linter.all false
set_option maxRecDepth 100000
set_option maxHeartbeats 4000000
def pSl (P : List (Nat × Nat)) : AV := .sl 0 2 0 P.length (P.length * 2)
structure PInv (m : Mem) (P : List (Nat × Nat)) : Prop where
  h : m.h 0 = some (.cells (flatC pC P))
  q : ∀ x ∈ P, x.1 < 4 ∧ x.2 < 4 ∧ x.1 ≠ x.2
  n : 0 < m.nx
section
variable {v1 v2 : AV} {f : Int}
theorem top_row (Kc : List Item) {i : Nat} (hi : i < 4) : ∀ (k j a : Nat) (P : List (Nat × Nat)) (m : Mem), j + k = 4 → i < j → a ≤ 4 * i + j → P.length ≤ a → PInv m P →
    ∃ a' P' m', PInv m' P' ∧ P'.length ≤ a' ∧ a' ≤ 4 * i + 4 ∧ top_TopSeams.L2 (.int .u8 f) v1 v2 (.int .i64 4) (pSl P) (.int .i64 a) (.int .i64 i) (.int .i64 j) m (.inBlock 1 :: .code top_TopSeams.r4 :: .inLoop top_TopSeams.l0 :: .inBlock 0 :: Kc) = top_TopSeams.L0 (.int .u8 f) v1 v2 (.int .i64 4) (pSl P') (.int .i64 a') (.int .i64 ((i : Int) + 1)) m' Kc := by
  have hwi : IntKind.wrap .i64 ((i : Int) + 1) = (i : Int) + 1 := wrap_id (by omega) (by omega)
  intro k
  induction k with
  | zero =>
    intro j a P m h1 h2 h3 h4 inv
    have e : j = 4 := by omega
    subst e
    refine ⟨a, P, m, inv, h4, h3, ?_⟩
    rw [top_TopSeams.L2_eq]
    simp [hwi]
    done
  | succ k ih =>
    intro j a P m h1 h2 h3 h4 inv
    have hj : j < 4 := by omega
    have hj' : (j : Int) < 4 := by omega
    have hwj : IntKind.wrap .i64 ((j : Int) + 1) = (j : Int) + 1 := wrap_id (by omega) (by omega)
    have hwa : IntKind.wrap .i64 ((a : Int) + 1) = (a : Int) + 1 := wrap_id (by omega) (by omega)
    obtain ⟨b, y, z, t1, t2, t3⟩ := bit_ex f a
    have hfl := flatC_len (f := pC) (k := 2) (l := P) (pC_len P)
    cases b with
    | false =>
      obtain ⟨a', P', m', g1, g2, g3, g4⟩ := ih (j + 1) (a + 1) P m (by omega) (by omega) (by omega) (by omega) inv
      refine ⟨a', P', m', g1, g2, g3, ?_⟩
      simp only [Int.natCast_add, Int.cast_ofNat_Int] at g4
      rw [← g4, top_TopSeams.L2_eq]
      simp [-binA_shr, -binA_and, hj', t1, t2, t3, hwj, hwa]
      done
    | true =>
      obtain ⟨a', P', m', g1, g2, g3, g4⟩ := ih (j + 1) (a + 1) (P ++ [(i, j)]) ⟨upd m.h 0 (some (.cells (flatC pC P ++ [.int .i64 i, .int .i64 j]))), m.nx⟩ (by omega) (by omega) (by omega) (by simp; omega) ⟨by simp [flatC_append, flatC_one, pC], fun x hx => by
        rcases List.mem_append.1 hx with hx | hx
        · exact inv.q x hx
        · simp at hx
          subst hx
          exact ⟨hi, hj, by simp; omega⟩, inv.n⟩
      refine ⟨a', P', m', g1, g2, g3, ?_⟩
      have ep : pSl (P ++ [(i, j)]) = .sl 0 2 0 (P.length + 1) (P.length * 2 + 2) := by simp [pSl, Nat.add_mul]
      rw [ep] at g4
      simp only [Int.natCast_add, Int.cast_ofNat_Int] at g4
      rw [← g4, top_TopSeams.L2_eq]
      simp [-binA_shr, -binA_and, hj', t1, t2, t3, hwj, hwa, pSl, inv.h, hfl, show P.length + 1 ≤ 4611686018427387904 by omega, show P.length ≤ 4611686018427387903 by omega, show (P.length + 1) * 16 ≤ 70368744177664 by omega]
      done
theorem top_pairs (Kc : List Item) : ∀ (k i a : Nat) (P : List (Nat × Nat)) (m : Mem), i + k = 4 → a ≤ 4 * i → P.length ≤ a → PInv m P →
    ∃ a' P' m', PInv m' P' ∧ P'.length ≤ 16 ∧ top_TopSeams.L0 (.int .u8 f) v1 v2 (.int .i64 4) (pSl P) (.int .i64 a) (.int .i64 i) m Kc = top_TopSeams.L0 (.int .u8 f) v1 v2 (.int .i64 4) (pSl P') (.int .i64 a') (.int .i64 4) m' Kc := by
  intro k
  induction k with
  | zero =>
    intro i a P m h1 h2 h3 inv
    have e : i = 4 := by omega
    subst e
    exact ⟨a, P, m, inv, by omega, by simp⟩
  | succ k ih =>
    intro i a P m h1 h2 h3 inv
    have hi : i < 4 := by omega
    have hi' : (i : Int) < 4 := by omega
    have hwi : IntKind.wrap .i64 ((i : Int) + 1) = (i : Int) + 1 := wrap_id (by omega) (by omega)
    obtain ⟨a1, P1, m1, g1, g2, g3, g4⟩ := top_row (v1 := v1) (v2 := v2) (f := f) Kc hi (3 - i) (i + 1) a P m (by omega) (by omega) (by omega) h3 inv
    obtain ⟨a', P', m', e1, e2, e3⟩ := ih (i + 1) a1 P1 m1 (by omega) (by omega) g2 g1
    refine ⟨a', P', m', e1, e2, ?_⟩
    simp only [Int.natCast_add, Int.cast_ofNat_Int] at g4 e3
    rw [← e3, ← g4, top_TopSeams.L0_eq]
    simp [hi', hwi]
    done
end
end Go.Proofs.Ytdkmepjedjclkaa

/-
  TopSeams (2): the seam and its story. Conditions: none.
-/
namespace Go.Proofs.Ytdkmepjedjclkaa
open Go.AM
open Go.Proofs.Try (prog)
set_option linter.all false
set_option maxRecDepth 100000
set_option maxHeartbeats 4000000
structure SInv (m : Mem) (P : List (Nat × Nat)) (c : List Int) (Q : List Note) (did sid nid : Nat) : Prop where
  p : m.h 0 = some (.cells (flatC pC P))
  d : m.h did = some (.cells (ints c))
  r : m.h sid = some (.cells [.sl did 1 0 4 4, nvX nid Q])
  o : Q ≠ [] → m.h nid = some (.cells (flatC noteC Q)) ∧ nid < m.nx ∧ nid ≠ 0 ∧ nid ≠ did ∧ nid ≠ sid
  n : 0 < did ∧ 0 < sid ∧ did ≠ sid ∧ did < m.nx ∧ sid < m.nx
  c4 : c.length = 4
theorem SInv.nx {m : Mem} {P : List (Nat × Nat)} {c : List Int} {Q : List Note} {did sid nid k : Nat} (i : SInv m P c Q did sid nid) (h : m.nx ≤ k) : SInv ⟨m.h, k⟩ P c Q did sid nid := by
  obtain ⟨n1, n2, n3, n4, n5⟩ := i.n
  exact ⟨i.p, i.d, i.r, fun hq => by obtain ⟨a, b, c⟩ := i.o hq; exact ⟨a, Nat.lt_of_lt_of_le b h, c⟩, ⟨n1, n2, n3, Nat.lt_of_lt_of_le n4 h, Nat.lt_of_lt_of_le n5 h⟩, i.c4⟩
theorem nvX_app {h : Nat → Option AObj} {nid : Nat} {Q : List Note} (ho : Q ≠ [] → h nid = some (.cells (flatC noteC Q))) (hl : Q.length < 1000) (x : Note) (k : Nat) : ∃ nid' h' k', appendA 4 32 ⟨h, k⟩ (nvX nid Q) (.fsl true 1 (noteC x)) = some (nvX nid' (Q ++ [x]), ⟨h', k'⟩) ∧ h' nid' = some (.cells (flatC noteC (Q ++ [x]))) ∧ (∀ j, j ≠ nid' → h' j = h j) ∧ ((Q ≠ [] ∧ nid' = nid) ∨ nid' = k) := by
  unfold nvX
  by_cases q : Q = []
  · subst q
    refine ⟨k, upd h k (some (.cells (noteC x))), k + 1, ?_, by simp [flatC_one], fun j hj => by simp [show (j == k) = false from beq_eq_false_iff_ne.2 hj], .inr rfl⟩
    rw [if_pos rfl, if_neg (by simp)]
    simp [appendA, srcA, room, noteC, Mem.new]
  · have hfl := flatC_len (f := noteC) (k := 4) (l := Q) (noteC_len Q)
    refine ⟨nid, upd h nid (some (.cells (flatC noteC Q ++ noteC x))), k, ?_, by simp [flatC_append, flatC_one], fun j hj => by simp [show (j == nid) = false from beq_eq_false_iff_ne.2 hj], .inl ⟨q, rfl⟩⟩
    rw [if_neg q, if_neg (by simp)]
    simp [appendA, srcA, room, noteC, ho q, hfl, Mem.set, Nat.add_mul, show Q.length + 1 ≤ 4611686018427387904 by omega, show Q.length ≤ 4611686018427387903 by omega, show Q.length * 32 + 32 ≤ 70368744177664 by omega]
    done
section
variable {v1 v2 : AV} {P : List (Nat × Nat)}
@[simp] theorem nvX_one (n : Nat) (Q : List Note) : (nvX n Q).one = true := by unfold nvX; split <;> rfl
@[simp] theorem nvX_cells (n : Nat) (Q : List Note) : (nvX n Q).cells = [nvX n Q] := by unfold nvX; split <;> rfl
@[simp] theorem pSl_closed (P : List (Nat × Nat)) : (pSl P).closed = false := rfl
@[simp] theorem pSl_one (P : List (Nat × Nat)) : (pSl P).one = true := rfl
theorem pSl_deep {m : Mem} (h : m.h 0 = some (.cells (flatC pC P))) (d : Nat) : deep m.h (d + 2) (pSl P) = some (.fsl false P.length (flatC pC P)) := by
  have hfl := flatC_len (f := pC) (k := 2) (l := P) (pC_len P)
  have ht : (flatC pC P).take (P.length * 2) = flatC pC P := List.take_of_length_le (by omega)
  have hd := flatC_deep (f := pC) m.h d (fun a => rfl) P
  simp [pSl, h, hfl, ht, hd]
def stepFrom (cm : Nat → Nat → Bool) (q : List Nat) (h o : Nat) : List Note :=
  ((List.range 4).drop o).flatMap fun o => if o ≠ h ∧ 0 < q.count o ∧ cm o h = false then [⟨o, q.count o, h, q.count h + 1⟩] else []
theorem stepFrom_end (cm : Nat → Nat → Bool) (q : List Nat) (h : Nat) : stepFrom cm q h 4 = [] := rfl
theorem stepFrom_succ (cm : Nat → Nat → Bool) (q : List Nat) (h : Nat) {o : Nat} (ho : o < 4) : stepFrom cm q h o = (if o ≠ h ∧ 0 < q.count o ∧ cm o h = false then [⟨o, q.count o, h, q.count h + 1⟩] else []) ++ stepFrom cm q h (o + 1) := by
  unfold stepFrom
  rw [List.drop_eq_getElem_cons (by simpa using ho), List.flatMap_cons]
  simp
theorem abcd_at {o : Nat} (ho : o < 4) : idxStr (.str [97, 98, 99, 100]) (.int .i64 (o : Int)) = some (.int .u8 (97 + (o : Int))) := by
  have : o = 0 ∨ o = 1 ∨ o = 2 ∨ o = 3 := by omega
  rcases this with rfl | rfl | rfl | rfl <;> rfl
theorem top_notes (g : GoodP P) {s : List Nat} (h4 : W4L s) {h : Nat} (hh : h < 4) (hl : s.length < 100) {w : List UInt8} {did sid : Nat} {i : Nat} (Kc : List Item) : ∀ (k o : Nat) (Q : List Note) (m : Mem) (nid : Nat), o + k = 4 → Q.length + k < 900 → SInv m P (cntW 4 (h :: s.reverse)) Q did sid nid →
    ∃ m' nid', SInv m' P (cntW 4 (h :: s.reverse)) (Q ++ stepFrom (com P) s h o) did sid nid' ∧ top_TopSeams.L6 v1 v2 (.int .i64 4) (pSl P) (.str w) (.ptr sid 0 2) (.int .i64 i) (.int .i64 h) (.int .i64 o) m Kc = top_TopSeams.L6 v1 v2 (.int .i64 4) (pSl P) (.str w) (.ptr sid 0 2) (.int .i64 i) (.int .i64 h) (.int .i64 4) m' Kc := by
  have hr4 : W4L (h :: s.reverse) := fun x hx => by
    rcases List.mem_cons.1 hx with rfl | hx
    · exact hh
    · exact h4 x (List.mem_reverse.1 hx)
  intro k
  induction k with
  | zero =>
    intro o Q m nid h1 h2 inv
    have e : o = 4 := by omega
    subst e
    refine ⟨m, nid, by rw [stepFrom_end, List.append_nil]; exact inv, by simp⟩
  | succ k ih =>
    intro o Q m nid h1 h2 inv
    have ho : o < 4 := by omega
    have ho' : (o : Int) < 4 := by omega
    obtain ⟨n1, n2, n3, n4, n5⟩ := inv.n
    have hwo : IntKind.wrap .i64 ((o : Int) + 1) = (o : Int) + 1 := wrap_id (by omega) (by omega)
    have hc4 := inv.c4
    have hco : nth (cntW 4 (h :: s.reverse)) o = ((h :: s.reverse).count o : Int) := nth_cnt hr4 o
    have hch : nth (cntW 4 (h :: s.reverse)) h = (s.count h : Int) + 1 := by
      rw [nth_cnt hr4, List.count_cons_self, List.count_reverse]; rfl
    have hd := fun d => pSl_deep inv.p d
    have hfr := fun m => free_spec (p := P) (IsSl.fsl (f := pC) false P) g ho hh m
    have ao := abcd_at ho
    have ah := abcd_at hh
    have hnh : ¬ m.nx = 0 := by omega
    have skip : ∀ (e : stepFrom (com P) s h o = stepFrom (com P) s h (o + 1)), ∃ m' nid', SInv m' P (cntW 4 (h :: s.reverse)) (Q ++ stepFrom (com P) s h o) did sid nid' ∧ top_TopSeams.L6 v1 v2 (.int .i64 4) (pSl P) (.str w) (.ptr sid 0 2) (.int .i64 i) (.int .i64 h) (.int .i64 ((o : Int) + 1)) ⟨m.h, m.nx + 20⟩ Kc = top_TopSeams.L6 v1 v2 (.int .i64 4) (pSl P) (.str w) (.ptr sid 0 2) (.int .i64 i) (.int .i64 h) (.int .i64 4) m' Kc := by
      intro e
      obtain ⟨m', nid', g1, g2⟩ := ih (o + 1) Q ⟨m.h, m.nx + 20⟩ nid (by omega) (by omega) (inv.nx (by show m.nx ≤ m.nx + 20; omega))
      exact ⟨m', nid', by rw [e]; exact g1, by simpa using g2⟩
    have es := stepFrom_succ (com P) s h ho
    by_cases q1 : o = h
    · rw [if_neg (fun k => k.1 q1), List.nil_append] at es
      obtain ⟨m', nid', g1, g2⟩ := skip es
      refine ⟨m', nid', g1, ?_⟩
      rw [← g2, top_TopSeams.L6_eq]
      subst q1
      simp [ho', hwo]
      done
    · have q1' : ¬ (o : Int) = (h : Int) := by omega
      have hcn : (h :: s.reverse).count o = s.count o := by rw [List.count_cons_of_ne (fun e => q1 e.symm), List.count_reverse]
      rw [hcn] at hco
      by_cases q2 : 0 < s.count o
      · have q2' : (0 : Int) < (s.count o : Int) := by omega
        cases q3 : com P o h with
        | true =>
          rw [q3] at hfr
          rw [if_neg (fun k => by have := k.2.2; rw [q3] at this; cases this), List.nil_append] at es
          obtain ⟨m', nid', g1, g2⟩ := skip es
          refine ⟨m', nid', g1, ?_⟩
          rw [← g2, top_TopSeams.L6_eq]
          simp [ho', hwo, q1, q1', Int.ofNat_inj, inv.r, inv.d, hc4, hco, ho, q2, q2', hd, hfr, ao, ah, AV.flat, AV.flat1]
          done
        | false =>
          rw [q3] at hfr
          rw [if_pos ⟨q1, q2, q3⟩] at es
          obtain ⟨nid', h', k', b1, b2, b3, b4⟩ := nvX_app (h := m.h) (nid := nid) (Q := Q) (fun hq => (inv.o hq).1) (by omega) ⟨o, s.count o, h, (s.count h : Int) + 1⟩ (m.nx + 20 + 16)
          have hid : nid' ≠ 0 ∧ nid' ≠ did ∧ nid' ≠ sid ∧ nid' < m.nx + 20 + 19 := by
            rcases b4 with ⟨hq, rfl⟩ | rfl
            · obtain ⟨_, o2, o3, o4, o5⟩ := inv.o hq
              exact ⟨o3, o4, o5, by omega⟩
            · exact ⟨by omega, by omega, by omega, by omega⟩
          obtain ⟨d1, d2, d3, d4⟩ := hid
          have s1 : (0 == sid) = false := beq_eq_false_iff_ne.2 (by omega)
          have s2 : (did == sid) = false := beq_eq_false_iff_ne.2 (by omega)
          have s3 : (nid' == sid) = false := beq_eq_false_iff_ne.2 d3
          obtain ⟨M, hM⟩ : ∃ M : Mem, M = ⟨upd h' sid (some (.cells [.sl did 1 0 4 4, nvX nid' (Q ++ [⟨o, s.count o, h, (s.count h : Int) + 1⟩])])), m.nx + 20 + 19⟩ := ⟨_, rfl⟩
          have hh0 : h' 0 = m.h 0 := b3 0 (fun e => d1 e.symm)
          have hhd : h' did = m.h did := b3 did (fun e => d2 e.symm)
          have hhs : h' sid = m.h sid := b3 sid (fun e => d3 e.symm)
          obtain ⟨m', nid2, g1, g2⟩ := ih (o + 1) (Q ++ [⟨o, s.count o, h, (s.count h : Int) + 1⟩]) M nid' (by omega) (by simp; omega) (by
            rw [hM]
            exact ⟨by simp [s1, hh0, inv.p], by simp [s2, hhd, inv.d], by simp, fun _ => ⟨by simp [s3, b2], by show nid' < m.nx + 20 + 19; omega, d1, d2, d3⟩, ⟨n1, n2, n3, by show did < m.nx + 20 + 19; omega, by show sid < m.nx + 20 + 19; omega⟩, hc4⟩)
          refine ⟨m', nid2, by rw [es]; simpa using g1, ?_⟩
          simp only [Int.natCast_add, Int.cast_ofNat_Int] at g2
          simp [noteC] at b1
          rw [← g2, top_TopSeams.L6_eq]
          simp [ho', hwo, q1, q1', Int.ofNat_inj, inv.r, inv.d, hc4, hco, hch, ho, hh, q2, q2', hd, hfr, ao, ah, b1, hhs, AV.flat, AV.flat1]
          rw [hM]
          done
      · have q2' : ¬ (0 : Int) < (s.count o : Int) := by omega
        rw [if_neg (fun k => q2 k.2.1), List.nil_append] at es
        obtain ⟨m', nid', g1, g2⟩ := skip es
        refine ⟨m', nid', g1, ?_⟩
        rw [← g2, top_TopSeams.L6_eq]
        simp [ho', hwo, q1, q1', Int.ofNat_inj, inv.r, inv.d, hc4, hco, ho, q2, q2']
        done
theorem stepFrom_all (cm : Nat → Nat → Bool) (q : List Nat) (h : Nat) : stepFrom cm q h 0 = stepN cm q h := rfl
def uC (n : Int) : List AV := [.int .u8 n]
theorem uC_len (l : List Int) : ∀ x ∈ l, (uC x).length = 1 := fun _ _ => rfl
theorem load_u8 {l : List Int} {i : Nat} (hi : i < l.length) : loadF false 1 (.fptr (flatC uC (l.drop i))) = some (.int .u8 l[i]) := by
  rw [flatC_at (List.getElem?_eq_getElem hi)]; simp [uC]
structure SeamI (s : List Nat) : Prop where
  w4 : W4L s
  l : s.length ≤ 8
  c : ∀ x, s.count x ≤ 6
theorem abc_part {h : Nat} (hh : h < 4) : sliceStr (.str [97, 98, 99, 100]) (some (.int .i64 (h : Int))) (some (.int .i64 ((h : Int) + 1))) = some (.str (strW [h])) := by
  have : h = 0 ∨ h = 1 ∨ h = 2 ∨ h = 3 := by omega
  rcases this with rfl | rfl | rfl | rfl <;> rfl
theorem top_step (g : GoodP P) {xs : List Int} (hx : IsSl uC v1 xs) (hb : ∀ x ∈ xs, 0 ≤ x ∧ x ≤ 255) (hxl : xs.length < 1000000000000000) {did sid : Nat} {s : List Nat} (si : SeamI s) {i : Nat} (hi : i < xs.length) (hl8 : s.length < 8) {m : Mem} {nid : Nat} (inv : SInv m P (cntW 4 s.reverse) (notesS (com P) s) did sid nid) (Kc : List Item) :
    ∃ s' m' nid', SeamI s' ∧ SInv m' P (cntW 4 s'.reverse) (notesS (com P) s') did sid nid' ∧ top_TopSeams.L4 v1 v2 (.int .i64 4) (pSl P) (.str (strW s)) (.ptr sid 0 2) (.int .i64 i) m Kc = top_TopSeams.L4 v1 v2 (.int .i64 4) (pSl P) (.str (strW s')) (.ptr sid 0 2) (.int .i64 ((i : Int) + 1)) m' Kc := by
  obtain ⟨b0, b1⟩ := hb xs[i] (List.getElem_mem hi)
  have hidx := hx.idx (uC_len xs) hi .i64
  have hld := load_u8 hi
  have hw : IntKind.wrap .i64 ((i : Int) + 1) = (i : Int) + 1 := wrap_id (by omega) (by omega)
  generalize xs[i] = x at *
  have hwx : IntKind.wrap .i64 x = x := wrap_id (by omega) (by omega)
  obtain ⟨h, hh, eh⟩ : ∃ h : Nat, h < 4 ∧ x.tmod 4 = h := by
    have a1 : 0 ≤ x.tmod 4 := Int.tmod_nonneg 4 b0
    have a2 : x.tmod 4 < 4 := Int.tmod_lt_of_pos x (by omega)
    exact ⟨(x.tmod 4).toNat, by omega, by omega⟩
  have h4r : W4L s.reverse := fun y hy => si.w4 y (List.mem_reverse.1 hy)
  have hcnt : nth (cntW 4 s.reverse) h = (s.count h : Int) := by rw [nth_cnt h4r, List.count_reverse]
  have hc6 := si.c h
  have hc4 := inv.c4
  have hl8' : (s.length : Int) < 8 := by omega
  have hil : (i : Int) < xs.length := by omega
  by_cases q : s.count h = 6
  · refine ⟨s, m, nid, si, inv, ?_⟩
    rw [top_TopSeams.L4_eq]
    simp [hx.len, hi, hl8, hl8', hidx, hld, hwx, eh, inv.r, inv.d, hc4, hcnt, hh, q, hw]
    done
  · have q' : ¬ (s.count h : Int) = 6 := by omega
    have hwc : IntKind.wrap .i64 ((s.count h : Int) + 1) = (s.count h : Int) + 1 := wrap_id (by omega) (by omega)
    have hwh : IntKind.wrap .i64 ((h : Int) + 1) = (h : Int) + 1 := wrap_id (by omega) (by omega)
    obtain ⟨n1, n2, n3, n4, n5⟩ := inv.n
    have hbump : (cntW 4 s.reverse).set h ((s.count h : Int) + 1) = cntW 4 (h :: s.reverse) := by rw [cntW, bump, hcnt]
    have i1 : SInv ⟨upd m.h did (some (.cells (ints (cntW 4 (h :: s.reverse))))), m.nx⟩ P (cntW 4 (h :: s.reverse)) (notesS (com P) s) did sid nid := by
      refine ⟨?_, by simp, ?_, fun hq => ?_, inv.n, cntW_len _ _⟩
      · simp [show (0 == did) = false from beq_eq_false_iff_ne.2 (by omega), inv.p]
      · simp [show (sid == did) = false from beq_eq_false_iff_ne.2 (fun e => n3 e.symm), inv.r]
      · obtain ⟨o1, o2, o3, o4, o5⟩ := inv.o hq
        exact ⟨by simp [show (nid == did) = false from beq_eq_false_iff_ne.2 o4, o1], o2, o3, o4, o5⟩
    have hnl := notesS_len (com P) s si.w4
    obtain ⟨m', nid', g1, g2⟩ := top_notes (v1 := v1) (v2 := v2) g si.w4 hh (by omega) (w := strW (s ++ [h])) (i := i) (.inBlock 5 :: .code top_TopSeams.r14 :: .inLoop top_TopSeams.l4 :: .inBlock 4 :: Kc) 4 0 _ _ nid (by omega) (by omega) i1
    rw [stepFrom_all, ← notesS_append] at g1
    have si' : SeamI (s ++ [h]) := ⟨fun y hy => by
        rcases List.mem_append.1 hy with hy | hy
        · exact si.w4 y hy
        · simp at hy; omega, by simp; omega, fun y => by
        rw [List.count_append]
        by_cases e : y = h
        · subst e; simp; omega
        · have e' : ¬ h = y := fun z => e z.symm
          have := si.c y
          simp [e']; omega⟩
    refine ⟨s ++ [h], m', nid', si', by rw [List.reverse_append]; exact g1, ?_⟩
    have habc := abc_part hh
    have hcat := str_cat (a := strW s) (b := strW [h]) (by simp; omega) 9
    rw [← strW_append] at hcat
    simp only [Int.cast_ofNat_Int] at g2
    have e1 : top_TopSeams.L4 v1 v2 (.int .i64 4) (pSl P) (.str (strW s)) (.ptr sid 0 2) (.int .i64 i) m Kc = top_TopSeams.L6 v1 v2 (.int .i64 4) (pSl P) (.str (strW (s ++ [h]))) (.ptr sid 0 2) (.int .i64 i) (.int .i64 h) (.int .i64 0) ⟨upd m.h did (some (.cells (ints (cntW 4 (h :: s.reverse))))), m.nx⟩ (.inBlock 5 :: .code top_TopSeams.r14 :: .inLoop top_TopSeams.l4 :: .inBlock 4 :: Kc) := by
      rw [top_TopSeams.L4_eq]
      simp [hx.len, hi, hl8, hl8', hidx, hld, hwx, eh, inv.r, inv.d, hc4, hcnt, hh, q, q', hw, hwc, hwh, habc, hcat, hbump]
      done
    rw [e1, g2, top_TopSeams.L6_eq]
    simp [hw]
    done
theorem top_build (g : GoodP P) {xs : List Int} (hx : IsSl uC v1 xs) (hb : ∀ x ∈ xs, 0 ≤ x ∧ x ≤ 255) (hxl : xs.length < 1000000000000000) {did sid : Nat} (Kc : List Item) : ∀ (k i : Nat) (s : List Nat) (m : Mem) (nid : Nat), i + k = xs.length → SeamI s → SInv m P (cntW 4 s.reverse) (notesS (com P) s) did sid nid →
    ∃ i' s' m' nid', i' ≤ xs.length ∧ (i' < xs.length → s'.length = 8) ∧ SeamI s' ∧ SInv m' P (cntW 4 s'.reverse) (notesS (com P) s') did sid nid' ∧ top_TopSeams.L4 v1 v2 (.int .i64 4) (pSl P) (.str (strW s)) (.ptr sid 0 2) (.int .i64 i) m Kc = top_TopSeams.L4 v1 v2 (.int .i64 4) (pSl P) (.str (strW s')) (.ptr sid 0 2) (.int .i64 i') m' Kc := by
  intro k
  induction k with
  | zero =>
    intro i s m nid h1 si inv
    exact ⟨i, s, m, nid, by omega, fun h => by omega, si, inv, rfl⟩
  | succ k ih =>
    intro i s m nid h1 si inv
    by_cases q : s.length = 8
    · exact ⟨i, s, m, nid, by omega, fun _ => q, si, inv, rfl⟩
    · have hl := si.l
      obtain ⟨s1, m1, nid1, g1, g2, g3⟩ := top_step (v2 := v2) g hx hb hxl si (i := i) (by omega) (by omega) inv Kc
      obtain ⟨i', s', m', nid', e1, e2, e3, e4, e5⟩ := ih (i + 1) s1 m1 nid1 (by omega) g1 g2
      refine ⟨i', s', m', nid', e1, e2, e3, e4, ?_⟩
      rw [g3, ← e5]; simp
end
end Go.Proofs.Ytdkmepjedjclkaa

/-
  TopSeams (3): letters that are exchanged; two cuts. Conditions: none.
-/
namespace Go.Proofs.Ytdkmepjedjclkaa
open Go.AM
open Go.Proofs.Try (prog)
set_option linter.all false
set_option maxRecDepth 100000
set_option maxHeartbeats 4000000
theorem swap_eqv {cm : Nat → Nat → Bool} (hs : ∀ a b, cm a b = cm b a) {x y : Nat} (h : cm x y = true) (q r : List Nat) : eqv cm (q ++ y :: x :: r) (q ++ x :: y :: r) := by
  intro a b k
  rw [pj_append, pj_append]
  congr 1
  by_cases hx : x = a ∨ x = b
  · by_cases hy : y = a ∨ y = b
    · by_cases e : x = y
      · subst e; rfl
      · exfalso
        rcases hx with rfl | rfl <;> rcases hy with rfl | rfl
        · exact e rfl
        · rw [k] at h; cases h
        · rw [hs, k] at h; cases h
        · exact e rfl
    · rw [pj_out hy, pj_in hx, pj_in hx, pj_out hy]
  · by_cases hy : y = a ∨ y = b
    · rw [pj_in hy, pj_out hx, pj_out hx, pj_in hy]
    · rw [pj_out hy, pj_out hx, pj_out hx, pj_out hy]
section
variable {v1 v2 : AV} {P : List (Nat × Nat)}
theorem top_swap (g : GoodP P) {ys : List Int} (hy : IsSl uC v2 ys) (hb : ∀ y ∈ ys, 0 ≤ y ∧ y ≤ 255) (hyl : ys.length < 1000000000000000) {s t : List Nat} (hs8 : s.length ≤ 8) (ht4 : W4L t) (ht : eqv (com P) t s) (htl : t.length = s.length) {ws : List UInt8} {sid : Nat} {i : Nat} (hi : i < ys.length) (h1 : 1 < t.length) {m : Mem} (hp : m.h 0 = some (.cells (flatC pC P))) (Kc : List Item) :
    ∃ t' k, W4L t' ∧ eqv (com P) t' s ∧ t'.length = s.length ∧ m.nx ≤ k ∧ top_TopSeams.L8 v1 v2 (.int .i64 4) (pSl P) (.str ws) (.ptr sid 0 2) (.str (strW t)) (.int .i64 i) m Kc = top_TopSeams.L8 v1 v2 (.int .i64 4) (pSl P) (.str ws) (.ptr sid 0 2) (.str (strW t')) (.int .i64 ((i : Int) + 1)) ⟨m.h, k⟩ Kc := by
  obtain ⟨b0, b1⟩ := hb ys[i] (List.getElem_mem hi)
  have hidx := hy.idx (uC_len ys) hi .i64
  have hld := load_u8 hi
  have hw : IntKind.wrap .i64 ((i : Int) + 1) = (i : Int) + 1 := wrap_id (by omega) (by omega)
  generalize ys[i] = y at *
  have hwy : IntKind.wrap .i64 y = y := wrap_id (by omega) (by omega)
  have hwl : IntKind.wrap .i64 ((t.length : Int) - 1) = (t.length : Int) - 1 := wrap_id (by omega) (by omega)
  obtain ⟨a, ha, ea⟩ : ∃ a : Nat, a + 1 < t.length ∧ y.tmod ((t.length : Int) - 1) = a := by
    have a1 : 0 ≤ y.tmod ((t.length : Int) - 1) := Int.tmod_nonneg _ b0
    have a2 : y.tmod ((t.length : Int) - 1) < (t.length : Int) - 1 := Int.tmod_lt_of_pos y (by omega)
    exact ⟨(y.tmod ((t.length : Int) - 1)).toNat, by omega, by omega⟩
  have hne : ¬ ((t.length : Int) - 1 = 0) := by omega
  have hwa : IntKind.wrap .i64 ((a : Int) + 1) = (a : Int) + 1 := wrap_id (by omega) (by omega)
  have hwa2 : IntKind.wrap .i64 ((a : Int) + 2) = (a : Int) + 2 := wrap_id (by omega) (by omega)
  have i1 := strW_at ht4 (i := a) (by omega) .i64
  have i2 := strW_at ht4 (i := a + 1) (by omega) .i64
  simp only [Int.natCast_add, Int.cast_ofNat_Int] at i2
  have x4 := ht4 t[a] (List.getElem_mem (by omega))
  have y4 := ht4 t[a + 1] (List.getElem_mem ha)
  have hd := fun d => pSl_deep hp d
  have hfr := fun m => free_spec (p := P) (IsSl.fsl (f := pC) false P) g x4 y4 m
  have hsp : t = t.take a ++ t[a] :: t[a + 1] :: t.drop (a + 2) := by
    rw [← List.drop_eq_getElem_cons ha, ← List.drop_eq_getElem_cons (by omega), List.take_append_drop]
  have h1' : (1 : Int) < t.length := by omega
  have hil : (i : Int) < ys.length := by omega
  cases q : com P t[a] t[a + 1] with
  | false =>
    rw [q] at hfr
    refine ⟨t, m.nx + 9, ht4, ht, htl, by omega, ?_⟩
    rw [top_TopSeams.L8_eq]
    simp [hy.len, hi, h1, h1', hidx, hld, hwy, hwl, ea, hne, hwa, i1, i2, hd, hfr, AV.flat, AV.flat1, hw]
    done
  | true =>
    rw [q] at hfr
    have s1 := str_to (s := strW t) (i := a) (by simp; omega)
    have s2 := str_part (s := strW t) (i := a + 1) (j := a + 2) (by omega) (by simp; omega)
    have s3 := str_part (s := strW t) (i := a) (j := a + 1) (by omega) (by simp; omega)
    have s4 := str_from (s := strW t) (i := a + 2) (by simp; omega)
    have e1 : (strW t).take a = strW (t.take a) := by simp [strW, List.map_take]
    have e2 : ((strW t).drop (a + 1)).take (a + 2 - (a + 1)) = strW [t[a + 1]] := by
      rw [List.drop_eq_getElem_cons (by simp; omega), show a + 2 - (a + 1) = 1 by omega]
      simp [strW]
    have e3 : ((strW t).drop a).take (a + 1 - a) = strW [t[a]] := by
      rw [List.drop_eq_getElem_cons (by simp; omega), show a + 1 - a = 1 by omega]
      simp [strW]
    have e4 : (strW t).drop (a + 2) = strW (t.drop (a + 2)) := by simp [strW, List.map_drop]
    rw [e1] at s1
    rw [e2] at s2
    rw [e3] at s3
    rw [e4] at s4
    simp only [Int.natCast_add, Int.cast_ofNat_Int] at s2 s3 s4
    generalize t[a] = x at *
    generalize t[a + 1] = z at *
    have hlt : (t.take a).length ≤ 8 := by simp; omega
    have hld8 : (t.drop (a + 2)).length ≤ 8 := by simp; omega
    have c1 := str_cat (a := strW (t.take a)) (b := strW [z]) (by simp; omega) 9
    have c2 := str_cat (a := strW (t.take a ++ [z])) (b := strW [x]) (by simp; omega) 9
    have c3 := str_cat (a := strW (t.take a ++ [z] ++ [x])) (b := strW (t.drop (a + 2))) (by simp; omega) 9
    rw [← strW_append] at c1 c2 c3
    have et : t.take a ++ [z] ++ [x] ++ t.drop (a + 2) = t.take a ++ z :: x :: t.drop (a + 2) := by simp
    have hsw := swap_eqv (com_symm P) q (t.take a) (t.drop (a + 2))
    rw [← hsp] at hsw
    rw [et] at c3
    have hperm := hsw.perm (com_irr g)
    refine ⟨t.take a ++ z :: x :: t.drop (a + 2), m.nx + 9 + 22, fun y hy => ht4 y (hperm.mem_iff.1 hy), hsw.trans ht, by rw [hperm.length_eq]; exact htl, by omega, ?_⟩
    rw [top_TopSeams.L8_eq]
    simp [-List.append_assoc, hy.len, hi, h1, h1', hidx, hld, hwy, hwl, ea, hne, hwa, hwa2, i1, i2, hd, hfr, AV.flat, AV.flat1, hw, s1, s2, s3, s4, c1, c2, c3]
    done
theorem top_swaps (g : GoodP P) {ys : List Int} (hy : IsSl uC v2 ys) (hb : ∀ y ∈ ys, 0 ≤ y ∧ y ≤ 255) (hyl : ys.length < 1000000000000000) {s : List Nat} (hs8 : s.length ≤ 8) {ws : List UInt8} {sid : Nat} (Kc : List Item) : ∀ (k i : Nat) (t : List Nat) (m : Mem), i + k = ys.length → W4L t → eqv (com P) t s → t.length = s.length → m.h 0 = some (.cells (flatC pC P)) →
    ∃ i' t' k', i' ≤ ys.length ∧ (i' < ys.length → t'.length ≤ 1) ∧ W4L t' ∧ eqv (com P) t' s ∧ t'.length = s.length ∧ m.nx ≤ k' ∧ top_TopSeams.L8 v1 v2 (.int .i64 4) (pSl P) (.str ws) (.ptr sid 0 2) (.str (strW t)) (.int .i64 i) m Kc = top_TopSeams.L8 v1 v2 (.int .i64 4) (pSl P) (.str ws) (.ptr sid 0 2) (.str (strW t')) (.int .i64 i') ⟨m.h, k'⟩ Kc := by
  intro k
  induction k with
  | zero =>
    intro i t m h1 h4 ht hl hp
    exact ⟨i, t, m.nx, by omega, fun h => by omega, h4, ht, hl, Nat.le_refl _, rfl⟩
  | succ k ih =>
    intro i t m h1 h4 ht hl hp
    by_cases q : t.length ≤ 1
    · exact ⟨i, t, m.nx, by omega, fun _ => q, h4, ht, hl, Nat.le_refl _, rfl⟩
    · obtain ⟨t1, k1, a1, a2, a3, a4, a5⟩ := top_swap (v1 := v1) (ws := ws) (sid := sid) g hy hb hyl hs8 h4 ht hl (i := i) (by omega) (by omega) hp Kc
      obtain ⟨i', t', k', e1, e2, e3, e4, e5, e6, e7⟩ := ih (i + 1) t1 ⟨m.h, k1⟩ (by omega) a1 a2 a3 hp
      refine ⟨i', t', k', e1, e2, e3, e4, e5, Nat.le_trans a4 e6, ?_⟩
      rw [a5, ← e7]; simp
end
end Go.Proofs.Ytdkmepjedjclkaa

/-
  TopSeams (4): two cuts side by side. Conditions: none.
-/
namespace Go.Proofs.Ytdkmepjedjclkaa
open Go.AM
open Go.Proofs.Try (prog)
set_option linter.all false
set_option maxRecDepth 100000
set_option maxHeartbeats 4000000
section
variable {P : List (Nat × Nat)} {c d : List Int}
theorem top_both (hc : c.length = 4) (hd : d.length = 4) (hcb : ∀ i, 0 ≤ nth c i ∧ nth c i ≤ 100) (hdb : ∀ i, 0 ≤ nth d i ∧ nth d i ≤ 100) {b1 b2 sid : Nat} (hne : b1 ≠ b2) {w1 w2 : List UInt8} (Kc : List Item) : ∀ (k j : Nat) (m : Mem), j + k = 4 → m.h b1 = some (.cells (ints ((zmin c d).take j))) → m.h b2 = some (.cells (ints ((zmax c d).take j))) → b1 < m.nx → b2 < m.nx →
    ∃ m', m'.h b1 = some (.cells (ints (zmin c d))) ∧ m'.h b2 = some (.cells (ints (zmax c d))) ∧ (∀ i, i < m.nx → i ≠ b1 → i ≠ b2 → m'.h i = m.h i) ∧ m.nx ≤ m'.nx ∧
      top_TopSeams.L10 (.int .i64 4) (.ptr sid 0 2) (.fsl false 4 (ints c)) (.fsl false 4 (ints d)) (.str w1) (.str w2) (.sl b1 1 0 j j) (.sl b2 1 0 j j) (.int .i64 j) m Kc = top_TopSeams.L10 (.int .i64 4) (.ptr sid 0 2) (.fsl false 4 (ints c)) (.fsl false 4 (ints d)) (.str w1) (.str w2) (.sl b1 1 0 4 4) (.sl b2 1 0 4 4) (.int .i64 4) m' Kc := by
  have e12 : (b1 == b2) = false := beq_eq_false_iff_ne.2 hne
  have e21 : (b2 == b1) = false := beq_eq_false_iff_ne.2 (fun e => hne e.symm)
  have hzl : (zmin c d).length = 4 := by simp [zmin, hc, hd]
  have hzx : (zmax c d).length = 4 := by simp [zmax, hc, hd]
  intro k
  induction k with
  | zero =>
    intro j m h1 h2 h3 l1 l2
    have e : j = 4 := by omega
    subst e
    rw [List.take_of_length_le (by omega)] at h2 h3
    exact ⟨m, h2, h3, fun _ _ _ _ => rfl, Nat.le_refl _, by simp⟩
  | succ k ih =>
    intro j m h1 h2 h3 l1 l2
    have hj : j < 4 := by omega
    have hj' : (j : Int) < 4 := by omega
    have hw : IntKind.wrap .i64 ((j : Int) + 1) = (j : Int) + 1 := wrap_id (by omega) (by omega)
    have hcv : IsInts (.fsl false 4 (ints c)) c := by have := IsInts.fsl false c; rwa [hc] at this
    have hdv : IsInts (.fsl false 4 (ints d)) d := by have := IsInts.fsl false d; rwa [hd] at this
    have i1 := hcv.idx (i := j) (by omega) .i64
    have i2 := hdv.idx (i := j) (by omega) .i64
    have f1 := ints_head (l := c) (i := j) (by omega)
    have f2 := ints_head (l := d) (i := j) (by omega)
    have t1 : (zmin c d).take (j + 1) = (zmin c d).take j ++ [min (nth c j) (nth d j)] := by
      rw [List.take_add_one, nth_eq (by omega), nth_zmin (by omega)]; rfl
    have t2 : (zmax c d).take (j + 1) = (zmax c d).take j ++ [max (nth c j) (nth d j)] := by
      rw [List.take_add_one, nth_eq (by omega)]
      congr 1
      simp only [Option.toList_some, zmax, nth, List.getD, List.getElem?_zipWith]
      rw [nth_eq (l := c) (by omega), nth_eq (l := d) (by omega)]
      simp [nth, List.getD]
    have c1 : ((zmin c d).take j).length = j := by simp; omega
    have c2 : ((zmax c d).take j).length = j := by simp; omega
    obtain ⟨M, hM⟩ : ∃ M : Mem, M = ⟨upd (upd m.h b1 (some (.cells (ints ((zmin c d).take (j + 1)))))) b2 (some (.cells (ints ((zmax c d).take (j + 1))))), m.nx + 26⟩ := ⟨_, rfl⟩
    obtain ⟨m', g1, g2, g3, g4, g5⟩ := ih (j + 1) M (by omega) (by rw [hM]; simp [e12]) (by rw [hM]; simp) (by rw [hM]; show b1 < m.nx + 26; omega) (by rw [hM]; show b2 < m.nx + 26; omega)
    refine ⟨m', g1, g2, fun i h5 h6 h7 => ?_, ?_, ?_⟩
    · rw [g3 i (by rw [hM]; show i < m.nx + 26; omega) h6 h7, hM]
      simp [show (i == b1) = false from beq_eq_false_iff_ne.2 h6, show (i == b2) = false from beq_eq_false_iff_ne.2 h7]
    · rw [hM] at g4
      have g4' : m.nx + 26 ≤ m'.nx := g4
      omega
    · simp only [Int.natCast_add, Int.cast_ofNat_Int] at g5
      rw [t1, t2, ← ints_append, ← ints_append, ints_cons, ints_nil, ints_cons, ints_nil] at hM
      rw [← g5, top_TopSeams.L10_eq]
      generalize (zmin c d).take j = z1 at *
      generalize (zmax c d).take j = z2 at *
      simp [hj', i1, i2, f1, f2, h2, h3, c1, c2, e12, e21, hw, show j ≤ 4611686018427387903 by omega, show j + 1 ≤ 4611686018427387904 by omega, show (j + 1) * 8 ≤ 70368744177664 by omega]
      rw [hM]
      done
end
end Go.Proofs.Ytdkmepjedjclkaa

/-
  TopSeams RETURNS TRUE. Conditions: none.
-/
namespace Go.Proofs.Ytdkmepjedjclkaa
open Go.AM
open Go.Proofs.Try (prog)
set_option linter.all false
set_option maxRecDepth 100000
set_option maxHeartbeats 8000000
def noteV (Q : List Note) : AV := if Q = [] then .nils else .fsl false Q.length (flatC noteC Q)
theorem noteV_is (Q : List Note) : IsSl noteC (noteV Q) Q := by
  unfold noteV
  by_cases q : Q = []
  · exact .inl ⟨by rw [if_pos q], q⟩
  · exact .inr ⟨false, by rw [if_neg q]⟩
theorem nvX_deep {m : Mem} {nid : Nat} {Q : List Note} (ho : Q ≠ [] → m.h nid = some (.cells (flatC noteC Q))) (d : Nat) : deep m.h (d + 2) (nvX nid Q) = some (noteV Q) := by
  unfold nvX noteV
  by_cases q : Q = []
  · rw [if_pos q, if_pos q]; rfl
  · have hfl := flatC_len (f := noteC) (k := 4) (l := Q) (noteC_len Q)
    have ht : (flatC noteC Q).take (Q.length * 4) = flatC noteC Q := List.take_of_length_le (by omega)
    have hd := flatC_deep (f := noteC) m.h d (fun a => rfl) Q
    rw [if_neg q, if_neg q]
    simp [ho q, hfl, ht, hd]
section
variable {v1 v2 : AV} {P : List (Nat × Nat)} {s : List Nat}
structure StoryOk (P : List (Nat × Nat)) (s : List Nat) : Prop where
  pre : Pre (cntW 4 s) (notesS (com P) s)
  val : ValidS (cntW 4 s) (notesS (com P) s)
  tale : IsTale (.agg [.fsl false 4 (ints (cntW 4 s)), noteV (notesS (com P) s)]) (cntW 4 s) (notesS (com P) s)
theorem story_ok (g : GoodP P) (si : SeamI s) : StoryOk P s := by
  have pre := seam_pre (com := com P) si.l si.w4 si.c
  refine ⟨pre, seam_valid (com_symm P) (com_irr g) pre si.w4, _, _, rfl, ?_, noteV_is _⟩
  have := IsInts.fsl false (cntW 4 s)
  rwa [cntW_len] at this
theorem rev_cnt (si : SeamI s) : cntW 4 s.reverse = cntW 4 s := cnt_perm (fun x hx => si.w4 x (List.mem_reverse.1 hx)) si.w4 fun x => List.count_reverse
noncomputable def k8s : List Item := [.code top_TopSeams.r35, .code top_TopSeams.r36, .code top_TopSeams.r37, .code top_TopSeams.r38, .code top_TopSeams.r39, .code top_TopSeams.r40, .code top_TopSeams.r41, .code top_TopSeams.i10, .code top_TopSeams.r43, .code top_TopSeams.r44, .code top_TopSeams.k10, .code top_TopSeams.r48, .code top_TopSeams.r49, .code .ret]
theorem top_mid (g : GoodP P) (si : SeamI s) {xs : List Int} (hx : IsSl uC v1 xs) {did sid nid i : Nat} {m : Mem} (hi : i ≤ xs.length) (hi8 : i < xs.length → s.length = 8) (inv : SInv m P (cntW 4 s) (notesS (com P) s) did sid nid) :
    top_TopSeams.L4 v1 v2 (.int .i64 4) (pSl P) (.str (strW s)) (.ptr sid 0 2) (.int .i64 i) m (.code top_TopSeams.r24 :: .code top_TopSeams.r25 :: .code top_TopSeams.r26 :: .code top_TopSeams.i7 :: .code top_TopSeams.r28 :: .code top_TopSeams.r29 :: .code top_TopSeams.k8 :: k8s) = top_TopSeams.L8 v1 v2 (.int .i64 4) (pSl P) (.str (strW s)) (.ptr sid 0 2) (.str (strW s)) (.int .i64 0) m k8s := by
  have so := story_ok g si
  have hl := si.l
  have hd := fun d => pSl_deep inv.p d
  have hd2 := fun d => deep_ints inv.d inv.c4 d
  have hd3 := fun d => nvX_deep (m := m) (nid := nid) (Q := notesS (com P) s) (fun q => (inv.o q).1) d
  have hw := fun m => ways51_spec (IsSl.fsl (f := pC) false P) g si.w4 (by omega) m
  obtain ⟨r, e, hr, hc⟩ := cou_spec so.tale (by rw [cntW_len]; omega) (by have := so.pre.L.N24; omega)
  obtain ⟨rfl, rfl⟩ := hr.ok so.val
  have hsum : (cntW 4 s).sum.toNat = s.length := by
    have := cntW_sum 4 s si.w4
    omega
  have hways := seam_ways (com_symm P) (com_irr g) so.pre si.w4
  rw [hsum, hways] at hc
  rw [top_TopSeams.L4_eq]
  by_cases q : i < xs.length
  · have h8 := hi8 q
    simp [hx.len, q, h8, hd, hd2, hd3, hw, hc, AV.flat, flatL, AV.flat1, inv.r]
    done
  · have q' : ¬ (i : Int) < xs.length := by omega
    simp [hx.len, q, q', hd, hd2, hd3, hw, hc, AV.flat, flatL, AV.flat1, inv.r]
    done
theorem take_begin {u : List Nat} (k : Nat) (x y : Nat) : pj x y (u.take k) <+: pj x y u := ⟨pj x y (u.drop k), by rw [← pj_append, List.take_append_drop]⟩
theorem rem_nat {n : Nat} {L : Nat} : ∃ a : Nat, a ≤ L ∧ (n : Int).tmod ((L : Int) + 1) = a := by
  have a1 : 0 ≤ (n : Int).tmod ((L : Int) + 1) := Int.tmod_nonneg _ (by omega)
  have a2 : (n : Int).tmod ((L : Int) + 1) < (L : Int) + 1 := Int.tmod_lt_of_pos _ (by omega)
  exact ⟨((n : Int).tmod ((L : Int) + 1)).toNat, by omega, by omega⟩
structure TwoOk (P : List (Nat × Nat)) (s u v lm lj : List Nat) : Prop where
  u4 : W4L u
  v4 : W4L v
  m4 : W4L lm
  j4 : W4L lj
  ml : lm.length ≤ 40
  jl : lj.length ≤ 200
  mn : zmin (cntW 4 u) (cntW 4 v) = cntW 4 lm
  mx : zmax (cntW 4 u) (cntW 4 v) = cntW 4 lj
  cut : cntW 4 lm ∈ cutsL (cntW 4 s) (notesS (com P) s)
  ul : u.length ≤ 8
  vl : v.length ≤ 8
theorem two_ok (g : GoodP P) (si : SeamI s) {t : List Nat} (ht4 : W4L t) (ht : eqv (com P) t s) (htl : t.length = s.length) (a b : Nat) {pv : AV} (hp : IsSl pC pv P) : ∃ lm lj, TwoOk P s (s.take a) (t.take b) lm lj ∧
    (∀ m, denC prog ann 53 [.int .i64 4, pv, .str (strW (s.take a)), .str (strW (t.take b))] m = some (.tup [.str (strW lm), .int .i64 0], m)) ∧
    (∀ m, denC prog ann 54 [.int .i64 4, pv, .str (strW (s.take a)), .str (strW (t.take b))] m = some (.tup [.str (strW lj), .int .i64 0], m)) := by
  have so := story_ok g si
  have hl := si.l
  have hs := com_symm P
  have hi := com_irr g
  have u4 : W4L (s.take a) := fun x hx => si.w4 x (List.mem_of_mem_take hx)
  have v4 : W4L (t.take b) := fun x hx => ht4 x (List.mem_of_mem_take hx)
  have hu : ∀ x y, com P x y = false → pj x y (s.take a) <+: pj x y s := fun x y _ => take_begin a x y
  have hv : ∀ x y, com P x y = false → pj x y (t.take b) <+: pj x y s := fun x y k => by rw [← ht x y k]; exact take_begin b x y
  have lu : (s.take a).length ≤ 8 := by simp; omega
  have lv : (t.take b).length ≤ 8 := by simp; omega
  generalize s.take a = u at *
  generalize t.take b = v at *
  obtain ⟨out, ra, rb, lm, h1, h2, h3, h4, h5, h6⟩ := meet53_spec hp g u4 v4 (by omega) (by omega)
  obtain ⟨out2, ra2, rb2, lj, k1, k2, k3, k4, k5⟩ := join54_spec hp g u4 v4 (by omega) (by omega) (fun out a b m x hx y hy => rests_free hs hi si.w4 m hu hv hx hy)
  have hb : ∀ x y, com P x y = false → pj x y lm <+: pj x y s := fun x y k => by
    rw [h3 x y k]
    exact List.IsPrefix.trans ⟨pj x y ra, h1.l x y k⟩ (hu x y k)
  refine ⟨lm, lj, ⟨u4, v4, h4, k3, h5, k4, ?_, ?_, begin_cut so.pre si.w4 hi hb, lu, lv⟩, h6, k5⟩
  · refine ext_nth (by simp [zmin, cntW_len]) fun x => ?_
    rw [nth_zmin (by rw [cntW_len, cntW_len]), nth_cnt u4, nth_cnt v4, nth_cnt h4, h3.count hi, meet_min hs hi si.w4 h1 hu hv]
    omega
  · refine ext_nth (by simp [zmax, cntW_len]) fun x => ?_
    have hmax : nth (zmax (cntW 4 u) (cntW 4 v)) x = max (nth (cntW 4 u) x) (nth (cntW 4 v) x) := by
      rcases Nat.lt_or_ge x 4 with h | h
      · simp only [zmax, nth, List.getD, List.getElem?_zipWith]
        rw [nth_eq (l := cntW 4 u) (by rw [cntW_len]; exact h), nth_eq (l := cntW 4 v) (by rw [cntW_len]; exact h)]
        simp [nth, List.getD]
      · rw [nth_out (by simp [zmax, cntW_len]; omega), nth_out (by rw [cntW_len]; exact h), nth_out (by rw [cntW_len]; exact h)]; rfl
    rw [hmax, nth_cnt u4, nth_cnt v4, nth_cnt k3, k2.count hi, join_max hs hi si.w4 k1 hu hv]
    omega
theorem begin_cons (g : GoodP P) (si : SeamI s) {u : List Nat} (hu : ∀ x y, com P x y = false → pj x y u <+: pj x y s) (m : Mem) : denC prog ann 30 [.agg [.fsl false 4 (ints (cntW 4 s)), noteV (notesS (com P) s)], .fsl false 4 (ints (cntW 4 u))] m = some (.tup [.bool true, .int .i64 0], m) := by
  have so := story_ok g si
  obtain ⟨c1, c2⟩ := (mem_cuts so.pre.L).1 (begin_cut so.pre si.w4 (com_irr g) hu)
  have hv : IsInts (.fsl false 4 (ints (cntW 4 u))) (cntW 4 u) := by
    have := IsInts.fsl false (cntW 4 u)
    rwa [cntW_len] at this
  have := consOk so.tale so.val hv c1 m
  rwa [c2] at this
theorem top_cuts (g : GoodP P) (si : SeamI s) {xs ys : List Int} (hx : IsSl uC v1 xs) (hy : IsSl uC v2 ys) (hxl : xs.length < 1000000000000000) (hyl : ys.length < 1000000000000000) {t : List Nat} (ht4 : W4L t) (ht : eqv (com P) t s) (htl : t.length = s.length) {did sid nid i : Nat} {m : Mem} (hi : i ≤ ys.length) (hi1 : i < ys.length → t.length ≤ 1) (inv : SInv m P (cntW 4 s) (notesS (com P) s) did sid nid) :
    ∃ u v lm lj, TwoOk P s u v lm lj ∧ top_TopSeams.L8 v1 v2 (.int .i64 4) (pSl P) (.str (strW s)) (.ptr sid 0 2) (.str (strW t)) (.int .i64 i) m k8s = top_TopSeams.L10 (.int .i64 4) (.ptr sid 0 2) (.fsl false 4 (ints (cntW 4 u))) (.fsl false 4 (ints (cntW 4 v))) (.str (strW lm)) (.str (strW lj)) (.sl (m.nx + 19) 1 0 0 0) (.sl (m.nx + 19 + 1) 1 0 0 0) (.int .i64 0) ⟨upd (upd m.h (m.nx + 19) (some (.cells []))) (m.nx + 19 + 1) (some (.cells [])), m.nx + 19 + 1 + 1⟩ [.code top_TopSeams.r48, .code top_TopSeams.r49, .code .ret] := by
  have so := story_ok g si
  have hl := si.l
  obtain ⟨a, ha, ea⟩ := rem_nat (n := ys.length) (L := s.length)
  obtain ⟨b, hb, eb⟩ := rem_nat (n := xs.length * 3) (L := s.length)
  obtain ⟨lm, lj, two, e53, e54⟩ := two_ok g si ht4 ht htl a b (IsSl.fsl (f := pC) false P)
  have c1 := fun m => begin_cons g si (u := s.take a) (fun x y _ => take_begin a x y) m
  have c2 := fun m => begin_cons g si (u := t.take b) (fun x y k => by rw [← ht x y k]; exact take_begin b x y) m
  have hd := fun d => pSl_deep inv.p d
  have hd2 := fun d => deep_ints inv.d inv.c4 d
  have hd3 := fun d => nvX_deep (m := m) (nid := nid) (Q := notesS (com P) s) (fun q => (inv.o q).1) d
  have w1 : IntKind.wrap .i64 ((s.length : Int) + 1) = (s.length : Int) + 1 := wrap_id (by omega) (by omega)
  have w2 : IntKind.wrap .i64 ((xs.length : Int) * 3) = (xs.length : Int) * 3 := wrap_id (by omega) (by omega)
  have hne : ¬ ((s.length : Int) + 1 = 0) := by omega
  have s1 := str_to (s := strW s) (i := a) (by simp; exact ha)
  have s2 := str_to (s := strW t) (i := b) (by simp; omega)
  rw [show (strW s).take a = strW (s.take a) by simp [strW, List.map_take]] at s1
  rw [show (strW t).take b = strW (t.take b) by simp [strW, List.map_take]] at s2
  have k1 := fun m => counts_spec two.u4 (by have := two.ul; omega) m
  have k2 := fun m => counts_spec two.v4 (by have := two.vl; omega) m
  simp only [Int.natCast_mul, Int.cast_ofNat_Int] at eb
  refine ⟨s.take a, t.take b, lm, lj, two, ?_⟩
  generalize s.take a = u at *
  generalize t.take b = v at *
  rw [top_TopSeams.L8_eq]
  by_cases q : i < ys.length
  · have h1 := hi1 q
    have h1' : ¬ (1 : Int) < (s.length : Int) := by omega
    simp [k8s, hy.len, hx.len, q, h1, h1', htl, w1, w2, hne, ea, eb, s1, s2, k1, k2, hd, hd2, hd3, c1, c2, e53, e54, AV.flat, flatL, AV.flat1, inv.r]
    done
  · have q' : ¬ (i : Int) < ys.length := by omega
    simp [k8s, hy.len, hx.len, q, q', htl, w1, w2, hne, ea, eb, s1, s2, k1, k2, hd, hd2, hd3, c1, c2, e53, e54, AV.flat, flatL, AV.flat1, inv.r]
    done
theorem top_end (g : GoodP P) (si : SeamI s) {u v lm lj : List Nat} (two : TwoOk P s u v lm lj) {did sid nid : Nat} {m : Mem} (inv : SInv m P (cntW 4 s) (notesS (com P) s) did sid nid) :
    top_TopSeams.L10 (.int .i64 4) (.ptr sid 0 2) (.fsl false 4 (ints (cntW 4 u))) (.fsl false 4 (ints (cntW 4 v))) (.str (strW lm)) (.str (strW lj)) (.sl (m.nx + 19) 1 0 0 0) (.sl (m.nx + 19 + 1) 1 0 0 0) (.int .i64 0) ⟨upd (upd m.h (m.nx + 19) (some (.cells []))) (m.nx + 19 + 1) (some (.cells [])), m.nx + 19 + 1 + 1⟩ [.code top_TopSeams.r48, .code top_TopSeams.r49, .code .ret] = some (.bool true, Mem.empty) := by
  have so := story_ok g si
  obtain ⟨n1, n2, n3, n4, n5⟩ := inv.n
  have ub : ∀ i, 0 ≤ nth (cntW 4 u) i ∧ nth (cntW 4 u) i ≤ 100 := fun i => by
    rw [nth_cnt two.u4]; have := two.ul; have := List.count_le_length (a := i) (l := u); omega
  have vb : ∀ i, 0 ≤ nth (cntW 4 v) i ∧ nth (cntW 4 v) i ≤ 100 := fun i => by
    rw [nth_cnt two.v4]; have := two.vl; have := List.count_le_length (a := i) (l := v); omega
  obtain ⟨m', g1, g2, g3, g4, g5⟩ := top_both (sid := sid) (w1 := strW lm) (w2 := strW lj) (cntW_len 4 u) (cntW_len 4 v) ub vb (b1 := m.nx + 19) (b2 := m.nx + 19 + 1) (by omega) [.code top_TopSeams.r48, .code top_TopSeams.r49, .code .ret] 4 0 ⟨upd (upd m.h (m.nx + 19) (some (.cells []))) (m.nx + 19 + 1) (some (.cells [])), m.nx + 19 + 1 + 1⟩ (by omega) (by simp [show (m.nx + 19 == m.nx + 19 + 1) = false from beq_eq_false_iff_ne.2 (by omega)]) (by simp) (by show m.nx + 19 < m.nx + 19 + 1 + 1; omega) (by show m.nx + 19 + 1 < m.nx + 19 + 1 + 1; omega)
  simp only [Int.cast_ofNat_Int] at g5
  have old : ∀ i, i < m.nx → m'.h i = m.h i := fun i hi => by
    rw [g3 i (by show i < m.nx + 19 + 1 + 1; omega) (by omega) (by omega)]
    simp [show (i == m.nx + 19) = false from beq_eq_false_iff_ne.2 (by omega), show (i == m.nx + 19 + 1) = false from beq_eq_false_iff_ne.2 (by omega)]
  have hr : m'.h sid = some (.cells [.sl did 1 0 4 4, nvX nid (notesS (com P) s)]) := by rw [old sid n5]; exact inv.r
  have hdd : m'.h did = some (.cells (ints (cntW 4 s))) := by rw [old did n4]; exact inv.d
  have hd2 := fun d => deep_ints hdd inv.c4 d
  have hd3 := fun d => nvX_deep (m := m') (nid := nid) (Q := notesS (com P) s) (fun q => by
    obtain ⟨o1, o2, _⟩ := inv.o q
    rw [old nid o2]; exact o1) d
  have zl : (zmin (cntW 4 u) (cntW 4 v)).length = 4 := by simp [zmin, cntW_len]
  have xl : (zmax (cntW 4 u) (cntW 4 v)).length = 4 := by simp [zmax, cntW_len]
  have hd4 := fun d => deep_ints g1 zl d
  have hd5 := fun d => deep_ints g2 xl d
  have iv : ∀ {c : List Int}, c.length = 4 → IsInts (.fsl false 4 (ints c)) c := fun {c} h => by
    have := IsInts.fsl false c
    rwa [h] at this
  obtain ⟨c1, c2⟩ := (mem_cuts so.pre.L).1 two.cut
  rw [← two.mn] at c1 c2
  obtain ⟨r, e, hrk, ek⟩ := rankV_spec so.tale (by rw [cntW_len]; omega) (by have := so.pre.L.N24; omega) (iv zl) (by omega)
  have hpos : 0 ≤ rankOf (cntW 4 s) (notesS (com P) s) (zmin (cntW 4 u) (cntW 4 v)) := by
    have := rank_con so.pre.L c1
    rw [c2] at this
    exact of_decide_eq_true this.symm
  obtain ⟨er, ee⟩ := hrk.ok so.val (cutB_iff.2 c1) hpos
  subst ee
  have hr0 : 0 ≤ r := by rw [er]; exact hpos
  have k1 := fun m => counts_spec two.m4 (by have := two.ml; omega) m
  have k2 := fun m => counts_spec two.j4 (by have := two.jl; omega) m
  have s1 := fun m => same_spec (iv (cntW_len 4 lm)) (iv zl) (by rw [cntW_len]; omega) (by omega) m
  have s2 := fun m => same_spec (iv (cntW_len 4 lj)) (iv xl) (by rw [cntW_len]; omega) (by omega) m
  rw [decide_eq_true two.mn.symm] at s1
  rw [decide_eq_true two.mx.symm] at s2
  rw [g5, top_TopSeams.L10_eq]
  simp [hr, hd2, hd3, hd4, hd5, ek, k1, k2, s1, s2, hr0, AV.flat, flatL, AV.flat1]
  done
end
theorem u76 : prog.underlying 76 = some (.slice 5) := by kernel_rfl
theorem datV5 {d : Nat} {a : AV} (h : DatV prog (d + 1) 5 a) : ∃ n, a = .int .u8 n := by
  simp only [DatV, u5] at h
  obtain ⟨n, e, _⟩ := dat5 h
  exact ⟨n, by simpa using e⟩
theorem datV76 {d : Nat} {a : AV} (h : DatV prog (d + 2) 76 a) : ∃ l : List Int, IsSl uC a l ∧ ∀ x ∈ l, 0 ≤ x ∧ x ≤ 255 := by
  simp only [DatV, u76] at h
  rw [Dat] at h
  simp only [u76] at h
  rcases h with e | ⟨parts, e, hl, hp⟩
  · simp at e
    subst e
    exact ⟨[], .inl ⟨rfl, rfl⟩, fun x hx => by cases hx⟩
  · simp at e
    subst e
    obtain ⟨l, h1, h2⟩ := parts_list (fun n : {n : Int // 0 ≤ n ∧ n ≤ 255} => uC n.val) (fun p => ∃ n : {n : Int // 0 ≤ n ∧ n ≤ 255}, p = uC n.val) (fun p h => h) parts (fun p hq => by
      obtain ⟨n, e, hb⟩ := dat5 (hp p hq).2
      exact ⟨⟨n, hb⟩, e⟩)
    have e2 : ∀ l : List {n : Int // 0 ≤ n ∧ n ≤ 255}, flatC (fun n : {n : Int // 0 ≤ n ∧ n ≤ 255} => uC n.val) l = flatC uC (l.map (·.val)) := by
      intro l
      induction l with
      | nil => rfl
      | cons a l ih => rw [flatC_cons, ih]; rfl
    refine ⟨l.map (·.val), .inr ⟨false, by rw [h2, e2, ← h1]; simp⟩, fun x hx => ?_⟩
    obtain ⟨n, _, rfl⟩ := List.mem_map.1 hx
    exact n.property
def lenAV : AV → Nat
  | .fsl _ n _ => n
  | _ => 0
theorem sl_lenAV {α : Type} {f : α → List AV} {v : AV} {l : List α} (h : IsSl f v l) : lenAV v = l.length := by
  rcases h with ⟨rfl, rfl⟩ | ⟨_, rfl⟩ <;> rfl
theorem seams_runs {d : Nat} (a0 a1 a2 : AV) (h0 : DatV prog (d + 4) 5 a0) (h1 : DatV prog (d + 4) 76 a1) (h2 : DatV prog (d + 4) 76 a2) (b1 : lenAV a1 < 1000000000000000) (b2 : lenAV a2 < 1000000000000000) : ∃ m', denC prog ann 13 [a0, a1, a2] Mem.empty = some (.bool true, m') := by
  obtain ⟨f, rfl⟩ := datV5 h0
  obtain ⟨xs, hx, hxb⟩ := datV76 (d := d + 2) h1
  obtain ⟨ys, hy, hyb⟩ := datV76 (d := d + 2) h2
  rw [sl_lenAV hx] at b1
  rw [sl_lenAV hy] at b2
  refine ⟨Mem.empty, ?_⟩
  rw [top_TopSeams.call_eq _ _ _ _ (by simp [hx.closed, hy.closed])]
  obtain ⟨a', P, m1, p1, p2, p3⟩ := top_pairs (v1 := a1) (v2 := a2) (f := f) (.code top_TopSeams.r11 :: .code top_TopSeams.r12 :: .code top_TopSeams.k4 :: .code top_TopSeams.r24 :: .code top_TopSeams.r25 :: .code top_TopSeams.r26 :: .code top_TopSeams.i7 :: .code top_TopSeams.r28 :: .code top_TopSeams.r29 :: .code top_TopSeams.k8 :: k8s) 4 0 0 [] ⟨upd Mem.empty.h 0 (some (.cells [])), 1⟩ (by omega) (by omega) (by simp) ⟨by simp, fun x hx => (by cases hx), by show 0 < 1; omega⟩
  have g : GoodP P := ⟨p1.q, by omega⟩
  have hn := p1.n
  have si0 : SeamI [] := ⟨fun x hx => (by cases hx), by simp, by simp⟩
  have inv0 : SInv ⟨upd (upd m1.h (m1.nx + 1) (some (.cells [.int .i64 0, .int .i64 0, .int .i64 0, .int .i64 0]))) (m1.nx + 3) (some (.cells [.sl (m1.nx + 1) 1 0 4 4, .nils])), m1.nx + 6⟩ P (cntW 4 ([] : List Nat).reverse) (notesS (com P) []) (m1.nx + 1) (m1.nx + 3) 0 := by
    refine ⟨?_, ?_, ?_, fun h => absurd rfl h, ⟨by omega, by omega, by omega, by show m1.nx + 1 < m1.nx + 6; omega, by show m1.nx + 3 < m1.nx + 6; omega⟩, cntW_len _ _⟩
    · simp [show (0 == m1.nx + 3) = false from beq_eq_false_iff_ne.2 (by omega), show (0 == m1.nx + 1) = false from beq_eq_false_iff_ne.2 (by omega), p1.h]
    · simp [show (m1.nx + 1 == m1.nx + 3) = false from beq_eq_false_iff_ne.2 (by omega)]; rfl
    · simp [nvX, notesS, notesF]
  obtain ⟨i', s, m2, nid, q1, q2, si, inv, q3⟩ := top_build (v2 := a2) g hx hxb b1 (.code top_TopSeams.r24 :: .code top_TopSeams.r25 :: .code top_TopSeams.r26 :: .code top_TopSeams.i7 :: .code top_TopSeams.r28 :: .code top_TopSeams.r29 :: .code top_TopSeams.k8 :: k8s) xs.length 0 [] _ 0 (by omega) si0 inv0
  rw [rev_cnt si] at inv
  have mid := top_mid (v2 := a2) g si hx q1 q2 inv
  obtain ⟨j', t, k', r1, r2, r3, r4, r5, r6, r7⟩ := top_swaps (v1 := a1) (ws := strW s) (sid := m1.nx + 3) g hy hyb b2 si.l k8s ys.length 0 s m2 (by omega) si.w4 (eqv.refl _ _) rfl inv.p
  have inv2 := inv.nx r6
  obtain ⟨u, v, lm, lj, two, e1⟩ := top_cuts (v1 := a1) (v2 := a2) g si hx hy b1 b2 r3 r4 r5 r1 r2 inv2
  have fin := top_end g si two inv2
  simp only [Int.cast_ofNat_Int] at p3 q3 r7
  have e0 : pSl [] = .sl 0 2 0 0 0 := rfl
  rw [e0] at p3
  have en : nvX 0 (notesS (com P) []) = .nils := rfl
  rw [strW_nil] at q3
  have l4 : top_TopSeams.L0 (.int .u8 f) a1 a2 (.int .i64 4) (pSl P) (.int .i64 a') (.int .i64 4) m1 (.code top_TopSeams.r11 :: .code top_TopSeams.r12 :: .code top_TopSeams.k4 :: .code top_TopSeams.r24 :: .code top_TopSeams.r25 :: .code top_TopSeams.r26 :: .code top_TopSeams.i7 :: .code top_TopSeams.r28 :: .code top_TopSeams.r29 :: .code top_TopSeams.k8 :: k8s) = some (.bool true, Mem.empty) := by
    rw [top_TopSeams.L0_eq, ← fin, ← e1, ← r7, ← mid, ← q3]
    simp
    done
  rw [l4] at p3
  simp [k8s] at p3
  simp [hx.closed, hy.closed, p3]
  done
end Go.Proofs.Ytdkmepjedjclkaa
