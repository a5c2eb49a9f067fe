/-
  BODIES OF FUNCTIONS OF THE PROGRAM AS SMALL OPERATIONS (written by gen.py; checked by the kernel against the program). Conditions: none.
-/
import Derived.Test.YthnpflkpjimkfaaKAmH
import Derived.Test.YthnpflkpjimkfaaK00
import Derived.Test.YthnpflkpjimkfaaK03
import Derived.Test.YthnpflkpjimkfaaK01
set_option linter.all false
namespace Go.Proofs.Ythnpflkpjimkfaa
open Go.AM
open Go.Proofs.Try (prog)
set_option maxRecDepth 100000
set_option linter.all false
namespace l07_BrandSame
noncomputable section
variable (K : List Item) (s : St)
def b : Code := (Try.f11.body).getD .skip
theorem hf : prog.funcs[11]? = some Try.f11 := by kernel_rfl
def r0 := findReg b 0
def r1 := findReg b 1
def r2 := findReg b 2
def r3 := findReg b 3
def r4 := findReg b 4
def k0 := findBlk b 0
def l0 := loopOf k0
def L0 (x1 x2 x7 x8 x9 x10 : AV) (m : Mem) (K : List Item) : Option Res := den prog ann 11 (.code l0 :: .inLoop l0 :: .inBlock 0 :: K) ⟨[(1, x1), (2, x2), (7, x7), (8, x8), (9, x9), (10, x10)], 282, m⟩
def r5 := findReg b 5
def i0 := findCond b 0
def i0t := thenOf i0
def i0e := elseOf i0
def k1 := findBlk b 1
def r7 := findReg b 7
def r6 := findReg b 6
def r8 := findReg b 8
def r9 := findReg b 9
def k2 := findBlk b 2
def l2 := loopOf k2
def L2 (x1 x2 x7 x8 x9 x11 x12 : AV) (m : Mem) (K : List Item) : Option Res := den prog ann 11 (.code l2 :: .inLoop l2 :: .inBlock 2 :: K) ⟨[(1, x1), (2, x2), (7, x7), (8, x8), (9, x9), (11, x11), (12, x12)], 282, m⟩
def r10 := findReg b 10
def i1 := findCond b 1
def i1t := thenOf i1
def i1e := elseOf i1
def k3 := findBlk b 3
def r12 := findReg b 12
def k4 := findBlk b 4
def l4 := loopOf k4
def L4 (x1 x2 x7 x8 x9 x11 x12 x13 : AV) (m : Mem) (K : List Item) : Option Res := den prog ann 11 (.code l4 :: .inLoop l4 :: .inBlock 4 :: K) ⟨[(1, x1), (2, x2), (7, x7), (8, x8), (9, x9), (11, x11), (12, x12), (13, x13)], 282, m⟩
def r13 := findReg b 13
def i2 := findCond b 2
def i2t := thenOf i2
def i2e := elseOf i2
def k5 := findBlk b 5
def r15 := findReg b 15
def r14 := findReg b 14
def r16 := findReg b 16
def r11 := findReg b 11
def r17 := findReg b 17
def i3 := findCond b 3
def i3t := thenOf i3
def i3e := elseOf i3
def r18 := findReg b 18
def r19 := findReg b 19
def r20 := findReg b 20
def k6 := findBlk b 6
def l6 := loopOf k6
def L6 (x2 x7 x8 x11 x14 x15 : AV) (m : Mem) (K : List Item) : Option Res := den prog ann 11 (.code l6 :: .inLoop l6 :: .inBlock 6 :: K) ⟨[(2, x2), (7, x7), (8, x8), (11, x11), (14, x14), (15, x15)], 282, m⟩
def r21 := findReg b 21
def i4 := findCond b 4
def i4t := thenOf i4
def i4e := elseOf i4
def k7 := findBlk b 7
def r23 := findReg b 23
def k8 := findBlk b 8
def l8 := loopOf k8
def L8 (x2 x7 x8 x11 x14 x15 x16 : AV) (m : Mem) (K : List Item) : Option Res := den prog ann 11 (.code l8 :: .inLoop l8 :: .inBlock 8 :: K) ⟨[(2, x2), (7, x7), (8, x8), (11, x11), (14, x14), (15, x15), (16, x16)], 282, m⟩
def r24 := findReg b 24
def i5 := findCond b 5
def i5t := thenOf i5
def i5e := elseOf i5
def k9 := findBlk b 9
def r26 := findReg b 26
def i6 := findCond b 6
def i6t := thenOf i6
def i6e := elseOf i6
def r27 := findReg b 27
def r25 := findReg b 25
def r22 := findReg b 22
def r28 := findReg b 28
def r29 := findReg b 29
def r30 := findReg b 30
def r31 := findReg b 31
def r32 := findReg b 32
def r33 := findReg b 33
def i7 := findCond b 7
def i7t := thenOf i7
def i7e := elseOf i7
def r34 := findReg b 34
def r35 := findReg b 35
def r36 := findReg b 36
def r37 := findReg b 37
def r38 := findReg b 38
theorem b_eq : den prog ann 11 (.code b :: K) s = den prog ann 11 (.code r0 :: .code r1 :: .code r2 :: .code r3 :: .code r4 :: .code k0 :: .code r8 :: .code r9 :: .code k2 :: .code r17 :: .code i3 :: .code r28 :: .code r29 :: .code r30 :: .code r31 :: .code r32 :: .code r33 :: .code i7 :: .code r35 :: .code r36 :: .code r37 :: .code r38 :: .code .ret :: K) s := den_flat hf (l := [r0, r1, r2, r3, r4, k0, r8, r9, k2, r17, i3, r28, r29, r30, r31, r32, r33, i7, r35, r36, r37, r38, .ret]) (by kernel_rfl) K s
theorem r0_eq : den prog ann 11 (.code r0 :: K) s = mreg prog ann 11 none [] none [] [qA 3 frozenPtr 0,qF 6 fun s => some (.bool false)] K s := (den_reg hf _ K s).trans (by kernel_rfl)
theorem r1_eq : den prog ann 11 (.code r1 :: K) s = mreg prog ann 11 none [] none [7] [qA 32 (loadF true 4) 3,⟨some 33, none, .c 0 (fun s => (.fn 22 [] [])) fun s => [(s.get 32)]⟩,⟨some 7, none, .w false none fun s => newPtr s.m [.nils, .nils]⟩,⟨none, none, .w false none fun s => stA true 2 s.m (s.get 7) (s.get 33)⟩] K s := (den_reg hf _ K s).trans (by kernel_rfl)
theorem r2_eq : den prog ann 11 (.code r2 :: K) s = mreg prog ann 11 none [] none [] [qA 34 (fieldA 0) 7,qA 35 (loadF false 1) 34,qA 36 lenSl 35,qC 8 36] K s := (den_reg hf _ K s).trans (by kernel_rfl)
theorem r3_eq : den prog ann 11 (.code r3 :: K) s = mreg prog ann 11 none [] none [] [⟨some 37, none, .w false none fun s => bslM s.m 1 (bslA 1 1 [.int .i64 0] [(0, (.int .i64 0))])⟩,qC 9 37] K s := (den_reg hf _ K s).trans (by kernel_rfl)
theorem r4_eq : den prog ann 11 (.code r4 :: K) s = mreg prog ann 11 none [] none [] [qF 10 fun s => some (.int .i64 1)] K s := (den_reg hf _ K s).trans (by kernel_rfl)
theorem k0_eq (K : List Item) (t : List (Nat × AV)) (m : Mem) : den prog ann 11 (.code k0 :: K) ⟨t, 282, m⟩ = L0 (get t 1) (get t 2) (get t 7) (get t 8) (get t 9) (get t 10) m K := den_loop_enter hf (b := l0) (id := 5) (l := [1, 2, 7, 8, 9, 10]) (by kernel_rfl) (by kernel_rfl) (by kernel_rfl) K _
theorem l0_eq (K : List Item) (t : List (Nat × AV)) (m : Mem) : den prog ann 11 (.inLoop l0 :: .inBlock 0 :: K) ⟨t, 282, m⟩ = L0 (get t 1) (get t 2) (get t 7) (get t 8) (get t 9) (get t 10) m K := den_loop_again hf (id := 5) (l := [1, 2, 7, 8, 9, 10]) (by kernel_rfl) (by kernel_rfl) (.inBlock 0 :: K) _
theorem L0_eq (x1 x2 x7 x8 x9 x10 : AV) (m : Mem) (K : List Item) : L0 x1 x2 x7 x8 x9 x10 m K = den prog ann 11 (.code r5 :: .code i0 :: .code k1 :: .code r6 :: .inLoop l0 :: .inBlock 0 :: K) ⟨[(1, x1), (2, x2), (7, x7), (8, x8), (9, x9), (10, x10)], 282, m⟩ := den_flat hf (l := [r5, i0, k1, r6]) (by kernel_rfl) _ _
theorem r5_eq : den prog ann 11 (.code r5 :: K) s = mreg prog ann 11 (some [1, 2, 7, 8, 9, 10]) [] none [] [qC 38 10,qC 39 8,qB 40 (binA prog .lss 3) 38 39] K s := (den_reg hf _ K s).trans (by kernel_rfl)
theorem i0_eq : den prog ann 11 (.code i0 :: K) s = ifV prog ann 11 40 i0t i0e K s (s.get 40) := den_if hf (by kernel_rfl) K s
theorem i0t_eq : den prog ann 11 (.code i0t :: K) s = den prog ann 11 (K) s := den_flat hf (l := []) (by kernel_rfl) K s
theorem i0e_eq : den prog ann 11 (.code i0e :: K) s = den prog ann 11 (.code (.exit 0) :: K) s := den_flat hf (l := [(.exit 0)]) (by kernel_rfl) K s
theorem k1_eq : den prog ann 11 (.code k1 :: K) s = den prog ann 11 (.code r7 :: .inBlock 1 :: K) s := den_blk hf (b := blkOf k1) (l := [r7]) (by kernel_rfl) (by kernel_rfl) K s
theorem r7_eq : den prog ann 11 (.code r7 :: K) s = mreg prog ann 11 none [] none [] [qC 43 9,qC 44 10,qF 45 fun s => binA prog .sub 3 (s.get 44) (.int .i64 1),qC 46 1,qA 47 (convInt .i64) 46,qB 48 (binA prog .add 3) 45 47,qC 49 8,qF 50 fun s => binA prog .sub 3 (s.get 49) (.int .i64 1),qB 51 (binA prog .rem 3) 48 50,qF 52 fun s => binA prog .add 3 (s.get 51) (.int .i64 1),qF 53 fun s => bslF 1 (bslA 1 1 [.int .i64 0] [(0, (s.get 52))]),⟨some 54, none, .w false none fun s => appendA 1 8 s.m (s.get 43) (s.get 53)⟩,qC 9 54] K s := (den_reg hf _ K s).trans (by kernel_rfl)
theorem r6_eq : den prog ann 11 (.code r6 :: K) s = mreg prog ann 11 (some [1, 2, 7, 8, 9, 10]) [] none [] [qC 41 10,qF 42 fun s => binA prog .add 3 (s.get 41) (.int .i64 1),qC 10 42] K s := (den_reg hf _ K s).trans (by kernel_rfl)
theorem r8_draw : drawOk (fun g => (ann g).pure) (modeOf (ann 11) (idOf r8)) (frzOf (ann 11) (idOf r8)) (opsOf r8) = true := drawOk_of (an := [0, 1, 0, 4, 15, 0, 63]) (by kernel_rfl) (by kernel_rfl)
theorem r8_eq : den prog ann 11 (.code r8 :: K) s = mreg prog ann 11 (some [1, 2, 7, 8, 9]) [] (some 7) [] [qC 55 8,⟨some 56, none, .w false (some 1) fun s => makeA 1 24 (.nils) s.m (s.get 55) (s.get 55)⟩,qC 57 8,⟨some 58, none, .w false (some 3) fun s => makeA 1 1 (.bool false) s.m (s.get 57) (s.get 57)⟩,qF 59 fun s => bldA (plc [(0, 1), (1, 1)]) [.nils, .nils] [(0, (s.get 56)), (1, (s.get 58))],⟨some 11, none, .w false (some 5) fun s => newPtr s.m [.nils, .nils]⟩,⟨none, none, .w false (some 6) fun s => stA true 2 s.m (s.get 11) (s.get 59)⟩] K s := (den_regD hf r8_draw K s).trans (by kernel_rfl)
theorem r9_eq : den prog ann 11 (.code r9 :: K) s = mreg prog ann 11 none [] none [] [qF 12 fun s => some (.int .i64 0)] K s := (den_reg hf _ K s).trans (by kernel_rfl)
theorem k2_eq (K : List Item) (t : List (Nat × AV)) (m : Mem) : den prog ann 11 (.code k2 :: K) ⟨t, 282, m⟩ = L2 (get t 1) (get t 2) (get t 7) (get t 8) (get t 9) (get t 11) (get t 12) m K := den_loop_enter hf (b := l2) (id := 10) (l := [1, 2, 7, 8, 9, 11, 12]) (by kernel_rfl) (by kernel_rfl) (by kernel_rfl) K _
theorem l2_eq (K : List Item) (t : List (Nat × AV)) (m : Mem) : den prog ann 11 (.inLoop l2 :: .inBlock 2 :: K) ⟨t, 282, m⟩ = L2 (get t 1) (get t 2) (get t 7) (get t 8) (get t 9) (get t 11) (get t 12) m K := den_loop_again hf (id := 10) (l := [1, 2, 7, 8, 9, 11, 12]) (by kernel_rfl) (by kernel_rfl) (.inBlock 2 :: K) _
theorem L2_eq (x1 x2 x7 x8 x9 x11 x12 : AV) (m : Mem) (K : List Item) : L2 x1 x2 x7 x8 x9 x11 x12 m K = den prog ann 11 (.code r10 :: .code i1 :: .code k3 :: .code r11 :: .inLoop l2 :: .inBlock 2 :: K) ⟨[(1, x1), (2, x2), (7, x7), (8, x8), (9, x9), (11, x11), (12, x12)], 282, m⟩ := den_flat hf (l := [r10, i1, k3, r11]) (by kernel_rfl) _ _
theorem r10_eq : den prog ann 11 (.code r10 :: K) s = mreg prog ann 11 (some [1, 2, 7, 8, 9, 11, 12]) [] none [] [qC 60 12,qC 61 8,qB 62 (binA prog .lss 3) 60 61] K s := (den_reg hf _ K s).trans (by kernel_rfl)
theorem i1_eq : den prog ann 11 (.code i1 :: K) s = ifV prog ann 11 62 i1t i1e K s (s.get 62) := den_if hf (by kernel_rfl) K s
theorem i1t_eq : den prog ann 11 (.code i1t :: K) s = den prog ann 11 (K) s := den_flat hf (l := []) (by kernel_rfl) K s
theorem i1e_eq : den prog ann 11 (.code i1e :: K) s = den prog ann 11 (.code (.exit 2) :: K) s := den_flat hf (l := [(.exit 2)]) (by kernel_rfl) K s
theorem k3_eq : den prog ann 11 (.code k3 :: K) s = den prog ann 11 (.code r12 :: .code k4 :: .code r16 :: .inBlock 3 :: K) s := den_blk hf (b := blkOf k3) (l := [r12, k4, r16]) (by kernel_rfl) (by kernel_rfl) K s
theorem r12_eq : den prog ann 11 (.code r12 :: K) s = mreg prog ann 11 none [] none [] [qF 13 fun s => some (.int .i64 0)] K s := (den_reg hf _ K s).trans (by kernel_rfl)
theorem k4_eq (K : List Item) (t : List (Nat × AV)) (m : Mem) : den prog ann 11 (.code k4 :: K) ⟨t, 282, m⟩ = L4 (get t 1) (get t 2) (get t 7) (get t 8) (get t 9) (get t 11) (get t 12) (get t 13) m K := den_loop_enter hf (b := l4) (id := 13) (l := [1, 2, 7, 8, 9, 11, 12, 13]) (by kernel_rfl) (by kernel_rfl) (by kernel_rfl) K _
theorem l4_eq (K : List Item) (t : List (Nat × AV)) (m : Mem) : den prog ann 11 (.inLoop l4 :: .inBlock 4 :: K) ⟨t, 282, m⟩ = L4 (get t 1) (get t 2) (get t 7) (get t 8) (get t 9) (get t 11) (get t 12) (get t 13) m K := den_loop_again hf (id := 13) (l := [1, 2, 7, 8, 9, 11, 12, 13]) (by kernel_rfl) (by kernel_rfl) (.inBlock 4 :: K) _
theorem L4_eq (x1 x2 x7 x8 x9 x11 x12 x13 : AV) (m : Mem) (K : List Item) : L4 x1 x2 x7 x8 x9 x11 x12 x13 m K = den prog ann 11 (.code r13 :: .code i2 :: .code k5 :: .code r14 :: .inLoop l4 :: .inBlock 4 :: K) ⟨[(1, x1), (2, x2), (7, x7), (8, x8), (9, x9), (11, x11), (12, x12), (13, x13)], 282, m⟩ := den_flat hf (l := [r13, i2, k5, r14]) (by kernel_rfl) _ _
theorem r13_eq : den prog ann 11 (.code r13 :: K) s = mreg prog ann 11 (some [1, 2, 7, 8, 9, 11, 12, 13]) [] none [] [qC 65 13,qA 66 (fieldA 0) 7,qA 67 (loadF false 1) 66,qC 68 12,qB 69 (idxSl 1) 67 68,qF 70 fun s => loadA false 1 s.m (s.get 69),qA 71 lenSl 70,qB 72 (binA prog .lss 3) 65 71] K s := (den_reg hf _ K s).trans (by kernel_rfl)
theorem i2_eq : den prog ann 11 (.code i2 :: K) s = ifV prog ann 11 72 i2t i2e K s (s.get 72) := den_if hf (by kernel_rfl) K s
theorem i2t_eq : den prog ann 11 (.code i2t :: K) s = den prog ann 11 (K) s := den_flat hf (l := []) (by kernel_rfl) K s
theorem i2e_eq : den prog ann 11 (.code i2e :: K) s = den prog ann 11 (.code (.exit 4) :: K) s := den_flat hf (l := [(.exit 4)]) (by kernel_rfl) K s
theorem k5_eq : den prog ann 11 (.code k5 :: K) s = den prog ann 11 (.code r15 :: .inBlock 5 :: K) s := den_blk hf (b := blkOf k5) (l := [r15]) (by kernel_rfl) (by kernel_rfl) K s
theorem r15_draw : drawOk (fun g => (ann g).pure) (modeOf (ann 11) (idOf r15)) (frzOf (ann 11) (idOf r15)) (opsOf r15) = true := drawOk_of (an := [0, 1, 0, 0, 12, 28, 0, 64, 0, 0, 768, 1792, 4032, 8128, 0, 0, 32768, 0, 229376, 491520, 0, 2064384, 4161536, 8372224, 16760832, 33538048, 67108800, 134217727, 268435455]) (by kernel_rfl) (by kernel_rfl)
theorem r15_eq : den prog ann 11 (.code r15 :: K) s = mreg prog ann 11 none [] (some 29) [3075088, 2000100, 3079088] [qA 75 (fieldA 0) 11,qF 76 fun s => loadA false 1 s.m (s.get 75),qC 77 9,qC 78 12,qB 79 (idxSl 1) 77 78,qF 80 fun s => loadA false 1 s.m (s.get 79),qA 81 (fieldA 0) 11,qF 82 fun s => loadA false 1 s.m (s.get 81),qC 83 9,qC 84 12,qB 85 (idxSl 1) 83 84,qF 86 fun s => loadA false 1 s.m (s.get 85),qB 87 (idxSl 1) 82 86,qF 88 fun s => loadA false 1 s.m (s.get 87),qC 89 9,qA 90 (fieldA 0) 7,qA 91 (loadF false 1) 90,qC 92 12,qB 93 (idxSl 1) 91 92,qF 94 fun s => loadA false 1 s.m (s.get 93),qC 95 13,qB 96 (idxSl 1) 94 95,qF 97 fun s => loadA false 1 s.m (s.get 96),qB 98 (idxSl 1) 89 97,qF 99 fun s => loadA false 1 s.m (s.get 98),qF 100 fun s => bslF 1 (bslA 1 1 [.int .i64 0] [(0, (s.get 99))]),⟨some 101, none, .w false (some 26) fun s => appendA 1 8 s.m (s.get 88) (s.get 100)⟩,qB 102 (idxSl 1) 76 80,⟨none, none, .w false (some 28) fun s => stA false 1 s.m (s.get 102) (s.get 101)⟩] K s := (den_regD hf r15_draw K s).trans (by kernel_rfl)
theorem r14_eq : den prog ann 11 (.code r14 :: K) s = mreg prog ann 11 (some [1, 2, 7, 8, 9, 11, 12, 13]) [] none [] [qC 73 13,qF 74 fun s => binA prog .add 3 (s.get 73) (.int .i64 1),qC 13 74] K s := (den_reg hf _ K s).trans (by kernel_rfl)
theorem r16_draw : drawOk (fun g => (ann g).pure) (modeOf (ann 11) (idOf r16)) (frzOf (ann 11) (idOf r16)) (opsOf r16) = true := drawOk_of (an := [0, 1, 0, 0, 12, 28, 0, 64, 0, 448, 960, 2047, 4095]) (by kernel_rfl) (by kernel_rfl)
theorem r16_eq : den prog ann 11 (.code r16 :: K) s = mreg prog ann 11 (some [1, 2, 7, 8, 9, 11, 12]) [] (some 13) [] [qA 103 (fieldA 1) 11,qF 104 fun s => loadA false 1 s.m (s.get 103),qC 105 9,qC 106 12,qB 107 (idxSl 1) 105 106,qF 108 fun s => loadA false 1 s.m (s.get 107),qA 109 (fieldA 1) 7,qA 110 (loadF false 1) 109,qC 111 12,qB 112 (idxSl 1) 110 111,qF 113 fun s => loadA false 1 s.m (s.get 112),qB 114 (idxSl 1) 104 108,⟨none, none, .w false (some 12) fun s => stA false 1 s.m (s.get 114) (s.get 113)⟩] K s := (den_regD hf r16_draw K s).trans (by kernel_rfl)
theorem r11_eq : den prog ann 11 (.code r11 :: K) s = mreg prog ann 11 (some [1, 2, 7, 8, 9, 11, 12]) [] none [] [qC 63 12,qF 64 fun s => binA prog .add 3 (s.get 63) (.int .i64 1),qC 12 64] K s := (den_reg hf _ K s).trans (by kernel_rfl)
theorem r17_eq : den prog ann 11 (.code r17 :: K) s = mreg prog ann 11 (some [1, 2, 7, 8, 11]) [] none [] [qC 115 8,qF 116 fun s => binA prog .lss 3 (s.get 115) (.int .i64 6)] K s := (den_reg hf _ K s).trans (by kernel_rfl)
theorem i3_eq : den prog ann 11 (.code i3 :: K) s = ifV prog ann 11 116 i3t i3e K s (s.get 116) := den_if hf (by kernel_rfl) K s
theorem i3t_eq : den prog ann 11 (.code i3t :: K) s = den prog ann 11 (.code r18 :: .code r19 :: .code r20 :: .code k6 :: K) s := den_flat hf (l := [r18, r19, r20, k6]) (by kernel_rfl) K s
theorem r18_eq : den prog ann 11 (.code r18 :: K) s = mreg prog ann 11 none [] none [] [qC 117 1,qA 118 (convInt .i64) 117,qC 119 8,qB 120 (binA prog .rem 3) 118 119,qC 14 120] K s := (den_reg hf _ K s).trans (by kernel_rfl)
theorem r19_draw : drawOk (fun g => (ann g).pure) (modeOf (ann 11) (idOf r19)) (frzOf (ann 11) (idOf r19)) (opsOf r19) = true := drawOk_of (an := [0, 1, 0, 0, 8, 0, 56, 120, 252, 508, 1023, 0, 2048, 0, 8192, 0, 57344, 122880, 253952, 524287, 32767, 2097151, 4194303, 8388607]) (by kernel_rfl) (by kernel_rfl)
theorem r19_eq : den prog ann 11 (.code r19 :: K) s = mreg prog ann 11 none [] (some 24) [1121123, 1132123, 1134123, 1137123, 1132122, 1134122, 1137122] [qA 121 (fieldA 0) 11,qF 122 fun s => loadA false 1 s.m (s.get 121),⟨some 123, none, .w false (some 2) fun s => bslM s.m 0 (bslA 1 0 [.int .i64 0] [])⟩,qA 124 (fieldA 0) 11,qF 125 fun s => loadA false 1 s.m (s.get 124),qC 126 14,qB 127 (idxSl 1) 125 126,qF 128 fun s => loadA false 1 s.m (s.get 127),⟨some 129, none, .w false (some 8) fun s => appendA 1 8 s.m (s.get 123) (s.get 128)⟩,⟨some 130, none, .w false (some 9) fun s => bslM s.m 1 (bslA 1 1 [.nils] [(0, (s.get 129))])⟩,⟨some 131, none, .w false (some 10) fun s => appendA 1 24 s.m (s.get 122) (s.get 130)⟩,qA 132 (fieldA 1) 11,qF 133 fun s => loadA false 1 s.m (s.get 132),qA 134 (fieldA 1) 11,qF 135 fun s => loadA false 1 s.m (s.get 134),qC 136 14,qB 137 (idxSl 1) 135 136,qF 138 fun s => loadA false 1 s.m (s.get 137),qF 139 fun s => bslF 1 (bslA 1 1 [.bool false] [(0, (s.get 138))]),⟨some 140, none, .w false (some 19) fun s => appendA 1 1 s.m (s.get 133) (s.get 139)⟩,qA 141 (fieldA 0) 11,⟨none, none, .w false (some 21) fun s => stA false 1 s.m (s.get 141) (s.get 131)⟩,qA 142 (fieldA 1) 11,⟨none, none, .w false (some 23) fun s => stA false 1 s.m (s.get 142) (s.get 140)⟩] K s := (den_regD hf r19_draw K s).trans (by kernel_rfl)
theorem r20_eq : den prog ann 11 (.code r20 :: K) s = mreg prog ann 11 none [] none [] [qF 15 fun s => some (.int .i64 0)] K s := (den_reg hf _ K s).trans (by kernel_rfl)
theorem k6_eq (K : List Item) (t : List (Nat × AV)) (m : Mem) : den prog ann 11 (.code k6 :: K) ⟨t, 282, m⟩ = L6 (get t 2) (get t 7) (get t 8) (get t 11) (get t 14) (get t 15) m K := den_loop_enter hf (b := l6) (id := 21) (l := [2, 7, 8, 11, 14, 15]) (by kernel_rfl) (by kernel_rfl) (by kernel_rfl) K _
theorem l6_eq (K : List Item) (t : List (Nat × AV)) (m : Mem) : den prog ann 11 (.inLoop l6 :: .inBlock 6 :: K) ⟨t, 282, m⟩ = L6 (get t 2) (get t 7) (get t 8) (get t 11) (get t 14) (get t 15) m K := den_loop_again hf (id := 21) (l := [2, 7, 8, 11, 14, 15]) (by kernel_rfl) (by kernel_rfl) (.inBlock 6 :: K) _
theorem L6_eq (x2 x7 x8 x11 x14 x15 : AV) (m : Mem) (K : List Item) : L6 x2 x7 x8 x11 x14 x15 m K = den prog ann 11 (.code r21 :: .code i4 :: .code k7 :: .code r22 :: .inLoop l6 :: .inBlock 6 :: K) ⟨[(2, x2), (7, x7), (8, x8), (11, x11), (14, x14), (15, x15)], 282, m⟩ := den_flat hf (l := [r21, i4, k7, r22]) (by kernel_rfl) _ _
theorem r21_eq : den prog ann 11 (.code r21 :: K) s = mreg prog ann 11 (some [2, 7, 8, 11, 14, 15]) [] none [] [qC 143 15,qC 144 8,qB 145 (binA prog .lss 3) 143 144] K s := (den_reg hf _ K s).trans (by kernel_rfl)
theorem i4_eq : den prog ann 11 (.code i4 :: K) s = ifV prog ann 11 145 i4t i4e K s (s.get 145) := den_if hf (by kernel_rfl) K s
theorem i4t_eq : den prog ann 11 (.code i4t :: K) s = den prog ann 11 (K) s := den_flat hf (l := []) (by kernel_rfl) K s
theorem i4e_eq : den prog ann 11 (.code i4e :: K) s = den prog ann 11 (.code (.exit 6) :: K) s := den_flat hf (l := [(.exit 6)]) (by kernel_rfl) K s
theorem k7_eq : den prog ann 11 (.code k7 :: K) s = den prog ann 11 (.code r23 :: .code k8 :: .inBlock 7 :: K) s := den_blk hf (b := blkOf k7) (l := [r23, k8]) (by kernel_rfl) (by kernel_rfl) K s
theorem r23_eq : den prog ann 11 (.code r23 :: K) s = mreg prog ann 11 none [] none [] [qF 16 fun s => some (.int .i64 0)] K s := (den_reg hf _ K s).trans (by kernel_rfl)
theorem k8_eq (K : List Item) (t : List (Nat × AV)) (m : Mem) : den prog ann 11 (.code k8 :: K) ⟨t, 282, m⟩ = L8 (get t 2) (get t 7) (get t 8) (get t 11) (get t 14) (get t 15) (get t 16) m K := den_loop_enter hf (b := l8) (id := 24) (l := [2, 7, 8, 11, 14, 15, 16]) (by kernel_rfl) (by kernel_rfl) (by kernel_rfl) K _
theorem l8_eq (K : List Item) (t : List (Nat × AV)) (m : Mem) : den prog ann 11 (.inLoop l8 :: .inBlock 8 :: K) ⟨t, 282, m⟩ = L8 (get t 2) (get t 7) (get t 8) (get t 11) (get t 14) (get t 15) (get t 16) m K := den_loop_again hf (id := 24) (l := [2, 7, 8, 11, 14, 15, 16]) (by kernel_rfl) (by kernel_rfl) (.inBlock 8 :: K) _
theorem L8_eq (x2 x7 x8 x11 x14 x15 x16 : AV) (m : Mem) (K : List Item) : L8 x2 x7 x8 x11 x14 x15 x16 m K = den prog ann 11 (.code r24 :: .code i5 :: .code k9 :: .code r25 :: .inLoop l8 :: .inBlock 8 :: K) ⟨[(2, x2), (7, x7), (8, x8), (11, x11), (14, x14), (15, x15), (16, x16)], 282, m⟩ := den_flat hf (l := [r24, i5, k9, r25]) (by kernel_rfl) _ _
theorem r24_eq : den prog ann 11 (.code r24 :: K) s = mreg prog ann 11 (some [2, 7, 8, 11, 14, 15, 16]) [] none [] [qC 148 16,qA 149 (fieldA 0) 11,qF 150 fun s => loadA false 1 s.m (s.get 149),qC 151 15,qB 152 (idxSl 1) 150 151,qF 153 fun s => loadA false 1 s.m (s.get 152),qA 154 lenSl 153,qB 155 (binA prog .lss 3) 148 154] K s := (den_reg hf _ K s).trans (by kernel_rfl)
theorem i5_eq : den prog ann 11 (.code i5 :: K) s = ifV prog ann 11 155 i5t i5e K s (s.get 155) := den_if hf (by kernel_rfl) K s
theorem i5t_eq : den prog ann 11 (.code i5t :: K) s = den prog ann 11 (K) s := den_flat hf (l := []) (by kernel_rfl) K s
theorem i5e_eq : den prog ann 11 (.code i5e :: K) s = den prog ann 11 (.code (.exit 8) :: K) s := den_flat hf (l := [(.exit 8)]) (by kernel_rfl) K s
theorem k9_eq : den prog ann 11 (.code k9 :: K) s = den prog ann 11 (.code r26 :: .code i6 :: .inBlock 9 :: K) s := den_blk hf (b := blkOf k9) (l := [r26, i6]) (by kernel_rfl) (by kernel_rfl) K s
theorem r26_eq : den prog ann 11 (.code r26 :: K) s = mreg prog ann 11 none [] none [] [qA 158 (fieldA 0) 11,qF 159 fun s => loadA false 1 s.m (s.get 158),qC 160 15,qB 161 (idxSl 1) 159 160,qF 162 fun s => loadA false 1 s.m (s.get 161),qC 163 16,qB 164 (idxSl 1) 162 163,qF 165 fun s => loadA false 1 s.m (s.get 164),qC 166 14,qB 167 (binA prog .eql 3) 165 166,qC 168 167,⟨some 169, some (168, true), .v fun s => some (s.get 15)⟩,⟨some 170, some (168, true), .v fun s => some (s.get 16)⟩,⟨some 171, some (168, true), .v fun s => binA prog .add 3 (s.get 169) (s.get 170)⟩,⟨some 172, some (168, true), .v fun s => binA prog .rem 3 (s.get 171) (.int .i64 2)⟩,⟨some 173, some (168, true), .v fun s => binA prog .eql 3 (s.get 172) (.int .i64 0)⟩,qF 174 fun s => pickA (s.get 168) (s.get 173) (.bool false)] K s := (den_reg hf _ K s).trans (by kernel_rfl)
theorem i6_eq : den prog ann 11 (.code i6 :: K) s = ifV prog ann 11 174 i6t i6e K s (s.get 174) := den_if hf (by kernel_rfl) K s
theorem i6t_eq : den prog ann 11 (.code i6t :: K) s = den prog ann 11 (.code r27 :: K) s := den_flat hf (l := [r27]) (by kernel_rfl) K s
theorem r27_eq : den prog ann 11 (.code r27 :: K) s = mreg prog ann 11 none [] none [] [qA 175 (fieldA 0) 11,qF 176 fun s => loadA false 1 s.m (s.get 175),qC 177 15,qB 178 (idxSl 1) 176 177,qF 179 fun s => loadA false 1 s.m (s.get 178),qC 180 16,qC 181 8,qB 182 (idxSl 1) 179 180,⟨none, none, .w false none fun s => stA false 1 s.m (s.get 182) (s.get 181)⟩] K s := (den_reg hf _ K s).trans (by kernel_rfl)
theorem i6e_eq : den prog ann 11 (.code i6e :: K) s = den prog ann 11 (K) s := den_flat hf (l := []) (by kernel_rfl) K s
theorem r25_eq : den prog ann 11 (.code r25 :: K) s = mreg prog ann 11 (some [2, 7, 8, 11, 14, 15, 16]) [] none [] [qC 156 16,qF 157 fun s => binA prog .add 3 (s.get 156) (.int .i64 1),qC 16 157] K s := (den_reg hf _ K s).trans (by kernel_rfl)
theorem r22_eq : den prog ann 11 (.code r22 :: K) s = mreg prog ann 11 (some [2, 7, 8, 11, 14, 15]) [] none [] [qC 146 15,qF 147 fun s => binA prog .add 3 (s.get 146) (.int .i64 1),qC 15 147] K s := (den_reg hf _ K s).trans (by kernel_rfl)
theorem i3e_eq : den prog ann 11 (.code i3e :: K) s = den prog ann 11 (K) s := den_flat hf (l := []) (by kernel_rfl) K s
theorem r28_eq : den prog ann 11 (.code r28 :: K) s = mreg prog ann 11 (some [2, 7, 8, 11]) [900011] none [17] [qA 184 (loadF true 2) 7,⟨some 185, none, .c 2 (fun s => (.fn 26 [] [])) fun s => [(s.get 184)]⟩,qC 183 185,qF 186 fun s => extA (s.get 183) 0,qF 187 fun s => extA (s.get 183) 1,⟨some 17, none, .w false none fun s => newPtr s.m [.nils, .nils]⟩,⟨none, none, .w false none fun s => stA true 2 s.m (s.get 17) (s.get 186)⟩,qC 18 187] K s := (den_reg hf _ K s).trans (by kernel_rfl)
theorem r29_eq : den prog ann 11 (.code r29 :: K) s = mreg prog ann 11 none [] none [19] [qF 189 fun s => loadA true 2 s.m (s.get 11),⟨some 190, none, .c 2 (fun s => (.fn 26 [] [])) fun s => [(s.get 189)]⟩,qC 188 190,qF 191 fun s => extA (s.get 188) 0,qF 192 fun s => extA (s.get 188) 1,⟨some 19, none, .w false none fun s => newPtr s.m [.nils, .nils]⟩,⟨none, none, .w false none fun s => stA true 2 s.m (s.get 19) (s.get 191)⟩,qC 20 192] K s := (den_reg hf _ K s).trans (by kernel_rfl)
theorem r30_eq : den prog ann 11 (.code r30 :: K) s = mreg prog ann 11 none [] none [21] [qA 194 (loadF true 2) 17,⟨some 195, none, .c 2 (fun s => (.fn 26 [] [])) fun s => [(s.get 194)]⟩,qC 193 195,qF 196 fun s => extA (s.get 193) 0,qF 197 fun s => extA (s.get 193) 1,⟨some 21, none, .w false none fun s => newPtr s.m [.nils, .nils]⟩,⟨none, none, .w false none fun s => stA true 2 s.m (s.get 21) (s.get 196)⟩,qC 22 197] K s := (den_reg hf _ K s).trans (by kernel_rfl)
theorem r31_eq : den prog ann 11 (.code r31 :: K) s = mreg prog ann 11 none [] none [] [qA 199 (loadF true 2) 7,qA 200 (loadF true 2) 17,⟨some 201, none, .c 0 (fun s => (.fn 33 [] [])) fun s => [(s.get 199), (s.get 200)]⟩,qC 198 201,qF 202 fun s => extA (s.get 198) 0,qF 203 fun s => extA (s.get 198) 1,qC 23 202,qC 24 203] K s := (den_reg hf _ K s).trans (by kernel_rfl)
theorem r32_eq : den prog ann 11 (.code r32 :: K) s = mreg prog ann 11 none [] none [] [qA 205 (loadF true 2) 7,qF 206 fun s => loadA true 2 s.m (s.get 11),⟨some 207, none, .c 0 (fun s => (.fn 33 [] [])) fun s => [(s.get 205), (s.get 206)]⟩,qC 204 207,qF 208 fun s => extA (s.get 204) 0,qF 209 fun s => extA (s.get 204) 1,qC 25 208,qC 26 209] K s := (den_reg hf _ K s).trans (by kernel_rfl)
theorem r33_eq : den prog ann 11 (.code r33 :: K) s = mreg prog ann 11 none [] none [] [qC 210 18,qF 211 fun s => binA prog .neq 27 (s.get 210) (.int .i64 0),qC 212 211,⟨some 213, some (212, false), .v fun s => some (s.get 20)⟩,⟨some 214, some (212, false), .v fun s => binA prog .neq 27 (s.get 213) (.int .i64 0)⟩,qF 215 fun s => pickA (s.get 212) (.bool true) (s.get 214),qC 216 215,⟨some 217, some (216, false), .v fun s => some (s.get 22)⟩,⟨some 218, some (216, false), .v fun s => binA prog .neq 27 (s.get 217) (.int .i64 0)⟩,qF 219 fun s => pickA (s.get 216) (.bool true) (s.get 218),qC 220 219,⟨some 221, some (220, false), .v fun s => loadF true 2 (s.get 17)⟩,⟨some 222, some (220, false), .c 0 (fun s => (.fn 19 [] [])) fun s => [(s.get 221)]⟩,⟨some 223, some (220, false), .v fun s => unA .not (s.get 222)⟩,qF 224 fun s => pickA (s.get 220) (.bool true) (s.get 223),qC 225 224,⟨some 226, some (225, false), .v fun s => loadF true 2 (s.get 17)⟩,⟨some 227, some (225, false), .v fun s => loadF true 2 (s.get 19)⟩,⟨some 228, some (225, false), .c 0 (fun s => (.fn 28 [] [])) fun s => [(s.get 226), (s.get 227)]⟩,⟨some 229, some (225, false), .v fun s => unA .not (s.get 228)⟩,qF 230 fun s => pickA (s.get 225) (.bool true) (s.get 229),qC 231 230,⟨some 232, some (231, false), .v fun s => loadF true 2 (s.get 17)⟩,⟨some 233, some (231, false), .v fun s => loadF true 2 (s.get 21)⟩,⟨some 234, some (231, false), .c 0 (fun s => (.fn 28 [] [])) fun s => [(s.get 232), (s.get 233)]⟩,⟨some 235, some (231, false), .v fun s => unA .not (s.get 234)⟩,qF 236 fun s => pickA (s.get 231) (.bool true) (s.get 235),qC 237 236,⟨some 238, some (237, false), .v fun s => some (s.get 24)⟩,⟨some 239, some (237, false), .v fun s => binA prog .neq 27 (s.get 238) (.int .i64 5)⟩,qF 240 fun s => pickA (s.get 237) (.bool true) (s.get 239),qC 241 240,⟨some 242, some (241, false), .v fun s => some (s.get 26)⟩,⟨some 243, some (241, false), .v fun s => binA prog .neq 27 (s.get 242) (.int .i64 5)⟩,qF 244 fun s => pickA (s.get 241) (.bool true) (s.get 243),qC 245 244,⟨some 246, some (245, false), .v fun s => fieldA 0 (s.get 17)⟩,⟨some 247, some (245, false), .v fun s => loadF false 1 (s.get 246)⟩,⟨some 248, some (245, false), .v fun s => lenSl (s.get 247)⟩,⟨some 249, some (245, false), .v fun s => some (s.get 8)⟩,⟨some 250, some (245, false), .v fun s => binA prog .gtr 3 (s.get 248) (s.get 249)⟩,qF 251 fun s => pickA (s.get 245) (.bool true) (s.get 250),qC 252 251,⟨some 253, some (252, false), .c 0 (fun s => (.fn 21 [] [])) fun s => []⟩,⟨some 254, some (252, false), .v fun s => unA .not (s.get 253)⟩,qF 255 fun s => pickA (s.get 252) (.bool true) (s.get 254)] K s := (den_reg hf _ K s).trans (by kernel_rfl)
theorem i7_eq : den prog ann 11 (.code i7 :: K) s = ifV prog ann 11 255 i7t i7e K s (s.get 255) := den_if hf (by kernel_rfl) K s
theorem i7t_eq : den prog ann 11 (.code i7t :: K) s = den prog ann 11 (.code r34 :: .code .ret :: K) s := den_flat hf (l := [r34, .ret]) (by kernel_rfl) K s
theorem r34_eq : den prog ann 11 (.code r34 :: K) s = mreg prog ann 11 none [] none [] [qF 6 fun s => some (.bool false)] K s := (den_reg hf _ K s).trans (by kernel_rfl)
theorem i7e_eq : den prog ann 11 (.code i7e :: K) s = den prog ann 11 (K) s := den_flat hf (l := []) (by kernel_rfl) K s
theorem r35_eq : den prog ann 11 (.code r35 :: K) s = mreg prog ann 11 none [] none [] [qA 256 (loadF true 2) 7,qC 257 2,⟨some 258, none, .c 0 (fun s => (.fn 35 [] [])) fun s => [(s.get 256), (s.get 257), (.int .i64 30)]⟩,qC 27 258] K s := (den_reg hf _ K s).trans (by kernel_rfl)
theorem r36_eq : den prog ann 11 (.code r36 :: K) s = mreg prog ann 11 none [] none [] [qA 260 (loadF true 2) 7,qC 261 27,⟨some 262, none, .c 0 (fun s => (.fn 31 [] [])) fun s => [(s.get 260), (s.get 261)]⟩,qC 259 262,qF 263 fun s => extA (s.get 259) 0,qF 264 fun s => extA (s.get 259) 1,qC 28 263,qC 29 264] K s := (den_reg hf _ K s).trans (by kernel_rfl)
theorem r37_eq : den prog ann 11 (.code r37 :: K) s = mreg prog ann 11 none [] none [] [qA 266 (loadF true 2) 17,qC 267 27,⟨some 268, none, .c 0 (fun s => (.fn 31 [] [])) fun s => [(s.get 266), (s.get 267)]⟩,qC 265 268,qF 269 fun s => extA (s.get 265) 0,qF 270 fun s => extA (s.get 265) 1,qC 30 269,qC 31 270] K s := (den_reg hf _ K s).trans (by kernel_rfl)
theorem r38_eq : den prog ann 11 (.code r38 :: K) s = mreg prog ann 11 none [] none [] [qC 271 29,qF 272 fun s => binA prog .eql 27 (s.get 271) (.int .i64 0),qC 273 272,⟨some 274, some (273, true), .v fun s => some (s.get 31)⟩,⟨some 275, some (273, true), .v fun s => binA prog .eql 27 (s.get 274) (.int .i64 0)⟩,qF 276 fun s => pickA (s.get 273) (s.get 275) (.bool false),qC 277 276,⟨some 278, some (277, true), .v fun s => some (s.get 28)⟩,⟨some 279, some (277, true), .v fun s => some (s.get 30)⟩,⟨some 280, some (277, true), .v fun s => binA prog .eql 4 (s.get 278) (s.get 279)⟩,qF 281 fun s => pickA (s.get 277) (s.get 280) (.bool false),qC 6 281] K s := (den_reg hf _ K s).trans (by kernel_rfl)
theorem ret_eq : den prog ann 11 (.code .ret :: K) s = finM true [fun s => some (s.get 6)] s := (den_ret hf K s).trans (by kernel_rfl)
theorem nil_eq (s : St) : den prog ann 11 [] s = finM true [fun s => some (s.get 6)] s := (den_nil hf s).trans (by kernel_rfl)
theorem inBlock_eq (id : Nat) (K : List Item) (s : St) : den prog ann 11 (.inBlock id :: K) s = den prog ann 11 K s := den_inBlock hf id K s
theorem exit_eq (id : Nat) (K : List Item) (s : St) : den prog ann 11 (.code (.exit id) :: K) s = exitV prog ann 11 (exitTo id K) s := den_exitV hf id K s
theorem call_eq (v0 v1 v2 : AV) (m : Mem) (h : closedL [v0, v1, v2] = true) : denC prog ann 11 [v0, v1, v2] m = (den prog ann 11 [.code b] ⟨[(0, v0), (1, v1), (2, v2)], 282, Mem.empty⟩).bind fun r => some (r.1, m) := (denC_pure hf (b := b) (by kernel_rfl) (by kernel_rfl) (by kernel_rfl) h m).trans (by kernel_rfl)
theorem pure_eq : (ann 11).pure = true := by kernel_rfl
attribute [simp] b_eq r0_eq r1_eq r2_eq r3_eq r4_eq k0_eq l0_eq r5_eq i0_eq i0t_eq i0e_eq k1_eq r7_eq r6_eq r8_eq r9_eq k2_eq l2_eq r10_eq i1_eq i1t_eq i1e_eq k3_eq r12_eq k4_eq l4_eq r13_eq i2_eq i2t_eq i2e_eq k5_eq r15_eq r14_eq r16_eq r11_eq r17_eq i3_eq i3t_eq r18_eq r19_eq r20_eq k6_eq l6_eq r21_eq i4_eq i4t_eq i4e_eq k7_eq r23_eq k8_eq l8_eq r24_eq i5_eq i5t_eq i5e_eq k9_eq r26_eq i6_eq i6t_eq r27_eq i6e_eq r25_eq r22_eq i3e_eq r28_eq r29_eq r30_eq r31_eq r32_eq r33_eq i7_eq i7t_eq r34_eq i7e_eq r35_eq r36_eq r37_eq r38_eq ret_eq nil_eq inBlock_eq exit_eq pure_eq
end
end l07_BrandSame
end Go.Proofs.Ythnpflkpjimkfaa

/-
  BODIES OF FUNCTIONS OF THE PROGRAM AS SMALL OPERATIONS (written by gen.py; checked by the kernel against the program). Conditions: none.
-/
namespace Go.Proofs.Ythnpflkpjimkfaa
open Go.AM
open Go.Proofs.Try (prog)
set_option maxRecDepth 100000
set_option linter.all false
namespace l07_Plan_made
noncomputable section
variable (K : List Item) (s : St)
def b : Code := (Try.f22.body).getD .skip
theorem hf : prog.funcs[22]? = some Try.f22 := by kernel_rfl
def r0 := findReg b 0
def r1 := findReg b 1
def r2 := findReg b 2
def r3 := findReg b 3
def k0 := findBlk b 0
def l0 := loopOf k0
def L0 (x1 x2 x3 x4 x5 x6 : AV) (m : Mem) (K : List Item) : Option Res := den prog ann 22 (.code l0 :: .inLoop l0 :: .inBlock 0 :: K) ⟨[(1, x1), (2, x2), (3, x3), (4, x4), (5, x5), (6, x6)], 79, m⟩
def r4 := findReg b 4
def i0 := findCond b 0
def i0t := thenOf i0
def i0e := elseOf i0
def k1 := findBlk b 1
def r6 := findReg b 6
def r7 := findReg b 7
def k2 := findBlk b 2
def l2 := loopOf k2
def L2 (x1 x2 x3 x4 x5 x6 x7 x8 : AV) (m : Mem) (K : List Item) : Option Res := den prog ann 22 (.code l2 :: .inLoop l2 :: .inBlock 2 :: K) ⟨[(1, x1), (2, x2), (3, x3), (4, x4), (5, x5), (6, x6), (7, x7), (8, x8)], 79, m⟩
def r8 := findReg b 8
def i1 := findCond b 1
def i1t := thenOf i1
def i1e := elseOf i1
def k3 := findBlk b 3
def r10 := findReg b 10
def r11 := findReg b 11
def r12 := findReg b 12
def i2 := findCond b 2
def i2t := thenOf i2
def i2e := elseOf i2
def r13 := findReg b 13
def r14 := findReg b 14
def i3 := findCond b 3
def i3t := thenOf i3
def i3e := elseOf i3
def r15 := findReg b 15
def r16 := findReg b 16
def r9 := findReg b 9
def r17 := findReg b 17
def r5 := findReg b 5
def r18 := findReg b 18
theorem b_eq : den prog ann 22 (.code b :: K) s = den prog ann 22 (.code r0 :: .code r1 :: .code r2 :: .code r3 :: .code k0 :: .code r18 :: .code .ret :: K) s := den_flat hf (l := [r0, r1, r2, r3, k0, r18, .ret]) (by kernel_rfl) K s
theorem r0_eq : den prog ann 22 (.code r0 :: K) s = mreg prog ann 22 none [] none [] [qA 1 frozenPtr 0,⟨some 2, none, .w false none fun s => newPtr s.m [.nils, .nils]⟩] K s := (den_reg hf _ K s).trans (by kernel_rfl)
theorem r1_draw : drawOk (fun g => (ann g).pure) (modeOf (ann 22) (idOf r1)) (frzOf (ann 22) (idOf r1)) (opsOf r1) = true := drawOk_of (an := [0, 1, 3, 7, 15, 0, 32, 96, 224, 480, 31, 2047]) (by kernel_rfl) (by kernel_rfl)
theorem r1_eq : den prog ann 22 (.code r1 :: K) s = mreg prog ann 22 none [] (some 12) [] [qA 11 (fieldA 0) 1,qA 12 (loadF false 1) 11,qA 13 (convInt .i64) 12,qF 14 fun s => binA prog .rem 3 (s.get 13) (.int .i64 6),qF 15 fun s => binA prog .add 3 (s.get 14) (.int .i64 1),qA 16 (fieldA 1) 1,qA 17 (loadF false 1) 16,qA 18 (convInt .i64) 17,qF 19 fun s => binA prog .rem 3 (s.get 18) (.int .i64 3),qF 20 fun s => binA prog .add 3 (s.get 19) (.int .i64 1),qC 3 15,qC 4 20] K s := (den_regD hf r1_draw K s).trans (by kernel_rfl)
theorem r2_eq : den prog ann 22 (.code r2 :: K) s = mreg prog ann 22 none [] none [] [qF 21 fun s => bldA (plc [(0, 1), (1, 1)]) [.nils, .nils] [],⟨some 5, none, .w false none fun s => newPtr s.m [.nils, .nils]⟩,⟨none, none, .w false none fun s => stA true 2 s.m (s.get 5) (s.get 21)⟩] K s := (den_reg hf _ K s).trans (by kernel_rfl)
theorem r3_eq : den prog ann 22 (.code r3 :: K) s = mreg prog ann 22 none [] none [] [qF 6 fun s => some (.int .i64 0)] K s := (den_reg hf _ K s).trans (by kernel_rfl)
theorem k0_eq (K : List Item) (t : List (Nat × AV)) (m : Mem) : den prog ann 22 (.code k0 :: K) ⟨t, 79, m⟩ = L0 (get t 1) (get t 2) (get t 3) (get t 4) (get t 5) (get t 6) m K := den_loop_enter hf (b := l0) (id := 4) (l := [1, 2, 3, 4, 5, 6]) (by kernel_rfl) (by kernel_rfl) (by kernel_rfl) K _
theorem l0_eq (K : List Item) (t : List (Nat × AV)) (m : Mem) : den prog ann 22 (.inLoop l0 :: .inBlock 0 :: K) ⟨t, 79, m⟩ = L0 (get t 1) (get t 2) (get t 3) (get t 4) (get t 5) (get t 6) m K := den_loop_again hf (id := 4) (l := [1, 2, 3, 4, 5, 6]) (by kernel_rfl) (by kernel_rfl) (.inBlock 0 :: K) _
theorem L0_eq (x1 x2 x3 x4 x5 x6 : AV) (m : Mem) (K : List Item) : L0 x1 x2 x3 x4 x5 x6 m K = den prog ann 22 (.code r4 :: .code i0 :: .code k1 :: .code r5 :: .inLoop l0 :: .inBlock 0 :: K) ⟨[(1, x1), (2, x2), (3, x3), (4, x4), (5, x5), (6, x6)], 79, m⟩ := den_flat hf (l := [r4, i0, k1, r5]) (by kernel_rfl) _ _
theorem r4_eq : den prog ann 22 (.code r4 :: K) s = mreg prog ann 22 (some [1, 2, 3, 4, 5, 6]) [] none [] [qC 22 6,qC 23 3,qB 24 (binA prog .lss 3) 22 23] K s := (den_reg hf _ K s).trans (by kernel_rfl)
theorem i0_eq : den prog ann 22 (.code i0 :: K) s = ifV prog ann 22 24 i0t i0e K s (s.get 24) := den_if hf (by kernel_rfl) K s
theorem i0t_eq : den prog ann 22 (.code i0t :: K) s = den prog ann 22 (K) s := den_flat hf (l := []) (by kernel_rfl) K s
theorem i0e_eq : den prog ann 22 (.code i0e :: K) s = den prog ann 22 (.code (.exit 0) :: K) s := den_flat hf (l := [(.exit 0)]) (by kernel_rfl) K s
theorem k1_eq : den prog ann 22 (.code k1 :: K) s = den prog ann 22 (.code r6 :: .code r7 :: .code k2 :: .code r17 :: .inBlock 1 :: K) s := den_blk hf (b := blkOf k1) (l := [r6, r7, k2, r17]) (by kernel_rfl) (by kernel_rfl) K s
theorem r6_eq : den prog ann 22 (.code r6 :: K) s = mreg prog ann 22 none [] none [] [⟨some 27, none, .w false none fun s => bslM s.m 0 (bslA 1 0 [.int .i64 0] [])⟩,qC 7 27] K s := (den_reg hf _ K s).trans (by kernel_rfl)
theorem r7_eq : den prog ann 22 (.code r7 :: K) s = mreg prog ann 22 none [] none [] [qF 8 fun s => some (.int .i64 0)] K s := (den_reg hf _ K s).trans (by kernel_rfl)
theorem k2_eq (K : List Item) (t : List (Nat × AV)) (m : Mem) : den prog ann 22 (.code k2 :: K) ⟨t, 79, m⟩ = L2 (get t 1) (get t 2) (get t 3) (get t 4) (get t 5) (get t 6) (get t 7) (get t 8) m K := den_loop_enter hf (b := l2) (id := 8) (l := [1, 2, 3, 4, 5, 6, 7, 8]) (by kernel_rfl) (by kernel_rfl) (by kernel_rfl) K _
theorem l2_eq (K : List Item) (t : List (Nat × AV)) (m : Mem) : den prog ann 22 (.inLoop l2 :: .inBlock 2 :: K) ⟨t, 79, m⟩ = L2 (get t 1) (get t 2) (get t 3) (get t 4) (get t 5) (get t 6) (get t 7) (get t 8) m K := den_loop_again hf (id := 8) (l := [1, 2, 3, 4, 5, 6, 7, 8]) (by kernel_rfl) (by kernel_rfl) (.inBlock 2 :: K) _
theorem L2_eq (x1 x2 x3 x4 x5 x6 x7 x8 : AV) (m : Mem) (K : List Item) : L2 x1 x2 x3 x4 x5 x6 x7 x8 m K = den prog ann 22 (.code r8 :: .code i1 :: .code k3 :: .code r9 :: .inLoop l2 :: .inBlock 2 :: K) ⟨[(1, x1), (2, x2), (3, x3), (4, x4), (5, x5), (6, x6), (7, x7), (8, x8)], 79, m⟩ := den_flat hf (l := [r8, i1, k3, r9]) (by kernel_rfl) _ _
theorem r8_eq : den prog ann 22 (.code r8 :: K) s = mreg prog ann 22 (some [1, 2, 3, 4, 5, 6, 7, 8]) [] none [] [qC 28 8,qC 29 4,qB 30 (binA prog .lss 3) 28 29] K s := (den_reg hf _ K s).trans (by kernel_rfl)
theorem i1_eq : den prog ann 22 (.code i1 :: K) s = ifV prog ann 22 30 i1t i1e K s (s.get 30) := den_if hf (by kernel_rfl) K s
theorem i1t_eq : den prog ann 22 (.code i1t :: K) s = den prog ann 22 (K) s := den_flat hf (l := []) (by kernel_rfl) K s
theorem i1e_eq : den prog ann 22 (.code i1e :: K) s = den prog ann 22 (.code (.exit 2) :: K) s := den_flat hf (l := [(.exit 2)]) (by kernel_rfl) K s
theorem k3_eq : den prog ann 22 (.code k3 :: K) s = den prog ann 22 (.code r10 :: .code r11 :: .code r12 :: .code i2 :: .code r14 :: .code i3 :: .code r16 :: .inBlock 3 :: K) s := den_blk hf (b := blkOf k3) (l := [r10, r11, r12, i2, r14, i3, r16]) (by kernel_rfl) (by kernel_rfl) K s
theorem r10_eq : den prog ann 22 (.code r10 :: K) s = mreg prog ann 22 none [] none [] [qF 9 fun s => some (.int .i64 0)] K s := (den_reg hf _ K s).trans (by kernel_rfl)
theorem r11_eq : den prog ann 22 (.code r11 :: K) s = mreg prog ann 22 none [] none [] [qC 33 6,qC 34 4,qB 35 (binA prog .mul 3) 33 34,qC 36 8,qB 37 (binA prog .add 3) 35 36,qC 10 37] K s := (den_reg hf _ K s).trans (by kernel_rfl)
theorem r12_eq : den prog ann 22 (.code r12 :: K) s = mreg prog ann 22 none [] none [] [qC 38 10,qA 39 (fieldA 2) 1,qA 40 (loadF false 1) 39,qA 41 lenSl 40,qB 42 (binA prog .lss 3) 38 41] K s := (den_reg hf _ K s).trans (by kernel_rfl)
theorem i2_eq : den prog ann 22 (.code i2 :: K) s = ifV prog ann 22 42 i2t i2e K s (s.get 42) := den_if hf (by kernel_rfl) K s
theorem i2t_eq : den prog ann 22 (.code i2t :: K) s = den prog ann 22 (.code r13 :: K) s := den_flat hf (l := [r13]) (by kernel_rfl) K s
theorem r13_eq : den prog ann 22 (.code r13 :: K) s = mreg prog ann 22 none [] none [] [qA 43 (fieldA 2) 1,qA 44 (loadF false 1) 43,qC 45 10,qB 46 (idxSl 1) 44 45,qA 47 (loadF false 1) 46,qA 48 (convInt .i64) 47,qC 49 3,qB 50 (binA prog .rem 3) 48 49,qC 9 50] K s := (den_reg hf _ K s).trans (by kernel_rfl)
theorem i2e_eq : den prog ann 22 (.code i2e :: K) s = den prog ann 22 (K) s := den_flat hf (l := []) (by kernel_rfl) K s
theorem r14_eq : den prog ann 22 (.code r14 :: K) s = mreg prog ann 22 none [] none [] [qA 51 (fieldA 3) 1,qA 52 (loadF false 1) 51,qF 53 fun s => binA prog .geq 5 (s.get 52) (.int .u8 128)] K s := (den_reg hf _ K s).trans (by kernel_rfl)
theorem i3_eq : den prog ann 22 (.code i3 :: K) s = ifV prog ann 22 53 i3t i3e K s (s.get 53) := den_if hf (by kernel_rfl) K s
theorem i3t_eq : den prog ann 22 (.code i3t :: K) s = den prog ann 22 (.code r15 :: K) s := den_flat hf (l := [r15]) (by kernel_rfl) K s
theorem r15_eq : den prog ann 22 (.code r15 :: K) s = mreg prog ann 22 none [] none [] [qC 54 9,qC 55 6,qF 56 fun s => foldA max2A (s.get 54) [(s.get 55)],qC 9 56] K s := (den_reg hf _ K s).trans (by kernel_rfl)
theorem i3e_eq : den prog ann 22 (.code i3e :: K) s = den prog ann 22 (K) s := den_flat hf (l := []) (by kernel_rfl) K s
theorem r16_eq : den prog ann 22 (.code r16 :: K) s = mreg prog ann 22 (some [1, 2, 3, 4, 5, 6, 7, 8, 9]) [] none [] [qC 57 7,qC 58 9,qF 59 fun s => bslF 1 (bslA 1 1 [.int .i64 0] [(0, (s.get 58))]),⟨some 60, none, .w false none fun s => appendA 1 8 s.m (s.get 57) (s.get 59)⟩,qC 7 60] K s := (den_reg hf _ K s).trans (by kernel_rfl)
theorem r9_eq : den prog ann 22 (.code r9 :: K) s = mreg prog ann 22 (some [1, 2, 3, 4, 5, 6, 7, 8]) [] none [] [qC 31 8,qF 32 fun s => binA prog .add 3 (s.get 31) (.int .i64 1),qC 8 32] K s := (den_reg hf _ K s).trans (by kernel_rfl)
theorem r17_draw : drawOk (fun g => (ann g).pure) (modeOf (ann 22) (idOf r17)) (frzOf (ann 22) (idOf r17)) (opsOf r17) = true := drawOk_of (an := [0, 1, 0, 4, 15, 0, 32, 0, 128, 0, 896, 1920, 3968, 8064, 16383, 127, 65535, 131071, 262143]) (by kernel_rfl) (by kernel_rfl)
theorem r17_eq : den prog ann 22 (.code r17 :: K) s = mreg prog ann 22 (some [1, 2, 3, 4, 5, 6, 7]) [7] (some 19) [3062066, 2000064] [qA 61 (fieldA 0) 5,qF 62 fun s => loadA false 1 s.m (s.get 61),qC 63 7,qF 64 fun s => bslF 1 (bslA 1 1 [.nils] [(0, (s.get 63))]),⟨some 65, none, .w false (some 4) fun s => appendA 1 24 s.m (s.get 62) (s.get 64)⟩,qA 66 (fieldA 1) 5,qF 67 fun s => loadA false 1 s.m (s.get 66),qA 68 (fieldA 3) 1,qA 69 (loadF false 1) 68,qC 70 6,qB 71 (binA prog .shr 5) 69 70,qF 72 fun s => binA prog .and 5 (s.get 71) (.int .u8 1),qF 73 fun s => binA prog .eql 5 (s.get 72) (.int .u8 1),qF 74 fun s => bslF 1 (bslA 1 1 [.bool false] [(0, (s.get 73))]),⟨some 75, none, .w false (some 14) fun s => appendA 1 1 s.m (s.get 67) (s.get 74)⟩,qA 76 (fieldA 0) 5,⟨none, none, .w false (some 16) fun s => stA false 1 s.m (s.get 76) (s.get 65)⟩,qA 77 (fieldA 1) 5,⟨none, none, .w false (some 18) fun s => stA false 1 s.m (s.get 77) (s.get 75)⟩] K s := (den_regD hf r17_draw K s).trans (by kernel_rfl)
theorem r5_eq : den prog ann 22 (.code r5 :: K) s = mreg prog ann 22 (some [1, 2, 3, 4, 5, 6]) [] none [] [qC 25 6,qF 26 fun s => binA prog .add 3 (s.get 25) (.int .i64 1),qC 6 26] K s := (den_reg hf _ K s).trans (by kernel_rfl)
theorem r18_eq : den prog ann 22 (.code r18 :: K) s = mreg prog ann 22 (some [2, 5]) [] none [] [qF 78 fun s => loadA true 2 s.m (s.get 5),⟨none, none, .w false none fun s => stA true 2 s.m (s.get 2) (s.get 78)⟩] K s := (den_reg hf _ K s).trans (by kernel_rfl)
theorem ret_eq : den prog ann 22 (.code .ret :: K) s = finM true [fun s => loadA true 2 s.m (s.get 2)] s := (den_ret hf K s).trans (by kernel_rfl)
theorem nil_eq (s : St) : den prog ann 22 [] s = finM true [fun s => loadA true 2 s.m (s.get 2)] s := (den_nil hf s).trans (by kernel_rfl)
theorem inBlock_eq (id : Nat) (K : List Item) (s : St) : den prog ann 22 (.inBlock id :: K) s = den prog ann 22 K s := den_inBlock hf id K s
theorem exit_eq (id : Nat) (K : List Item) (s : St) : den prog ann 22 (.code (.exit id) :: K) s = exitV prog ann 22 (exitTo id K) s := den_exitV hf id K s
theorem call_eq (v0 : AV) (m : Mem) (h : closedL [v0] = true) : denC prog ann 22 [v0] m = (den prog ann 22 [.code b] ⟨[(0, v0)], 79, Mem.empty⟩).bind fun r => some (r.1, m) := (denC_pure hf (b := b) (by kernel_rfl) (by kernel_rfl) (by kernel_rfl) h m).trans (by kernel_rfl)
theorem pure_eq : (ann 22).pure = true := by kernel_rfl
attribute [simp] b_eq r0_eq r1_eq r2_eq r3_eq k0_eq l0_eq r4_eq i0_eq i0t_eq i0e_eq k1_eq r6_eq r7_eq k2_eq l2_eq r8_eq i1_eq i1t_eq i1e_eq k3_eq r10_eq r11_eq r12_eq i2_eq i2t_eq r13_eq i2e_eq r14_eq i3_eq i3t_eq r15_eq i3e_eq r16_eq r9_eq r17_eq r5_eq r18_eq ret_eq nil_eq inBlock_eq exit_eq pure_eq
end
end l07_Plan_made
end Go.Proofs.Ythnpflkpjimkfaa

/-
  PLANS: numbers from which the laws make brands. Conditions: none.
-/
namespace Go.Proofs.Ythnpflkpjimkfaa
open Go.AM
open Go.Proofs.Try (prog)
set_option linter.all false
set_option maxRecDepth 100000
set_option maxHeartbeats 8000000
theorem u5 : prog.underlying 5 = some (.int .u8) := by kernel_rfl
theorem u35 : prog.underlying 35 = some (.slice 5) := by kernel_rfl
theorem u37 : prog.underlying 37 = some (.struct #[⟨ "States", 5, 0, false, "", "", 0⟩, ⟨ "Signs", 5, 1, false, "", "", 1⟩, ⟨ "Next", 35, 2, false, "", "", 8⟩, ⟨ "Good", 5, 3, false, "", "", 32⟩]) := by kernel_rfl
def bytN (l : List Nat) : List AV := l.map fun x => .int .u8 (x : Nat)
def IsBy (v : AV) (l : List Nat) : Prop := (v = .nils ∧ l = []) ∨ ∃ ex, v = .fsl ex l.length (bytN l)
theorem dat5 {d : Nat} {cs : List AV} (h : Dat prog (d + 1) 5 cs) : ∃ n : Nat, cs = [.int .u8 (n : Nat)] ∧ n < 256 := by
  simp only [Dat, u5] at h
  obtain ⟨n, e, hw⟩ := h
  simp only [Lit.wf, Bool.and_eq_true, decide_eq_true_eq] at hw
  have e1 : IntKind.min .u8 = 0 := by decide
  have e2 : IntKind.max .u8 = 255 := by decide
  rw [e1, e2] at hw
  refine ⟨n.toNat, ?_, by omega⟩
  rw [e]
  have : ((n.toNat : Nat) : Int) = n := by omega
  rw [this]
theorem dat35 {d : Nat} {cs : List AV} (h : Dat prog (d + 2) 35 cs) : ∃ v l, cs = [v] ∧ IsBy v l ∧ (∀ x ∈ l, x < 256) ∧ (l.length : Int) ≤ 9223372036854775807 := by
  rw [Dat] at h
  simp only [u35] at h
  rcases h with rfl | ⟨parts, rfl, hl, hp⟩
  · exact ⟨.nils, [], rfl, .inl ⟨rfl, rfl⟩, by simp, by simp⟩
  · have key : ∀ (parts : List (List AV)), (∀ p ∈ parts, ∃ n : Nat, p = [.int .u8 (n : Nat)] ∧ n < 256) → ∃ l : List Nat, l.length = parts.length ∧ parts.flatten = bytN l ∧ ∀ x ∈ l, x < 256 := by
      intro parts
      induction parts with
      | nil => intro _; exact ⟨[], rfl, rfl, by simp⟩
      | cons p ps ih =>
        intro h
        obtain ⟨n, rfl, hn⟩ := h p (by simp)
        obtain ⟨l, h1, h2, h3⟩ := ih (fun q hq => h q (by simp [hq]))
        exact ⟨n :: l, by simp [h1], by simp [h2, bytN], by intro x hx; rcases List.mem_cons.1 hx with rfl | hx; exact hn; exact h3 x hx⟩
    obtain ⟨l, h1, h2, h3⟩ := key parts (fun p hq => dat5 (hp p hq).2)
    refine ⟨_, l, rfl, .inr ⟨false, by rw [h1, h2]⟩, h3, ?_⟩
    have := mlen
    omega
theorem datV37 {d : Nat} {a : AV} (h : DatV prog (d + 4) 37 a) : ∃ s g : Nat, ∃ q : Nat, ∃ nv l, a = .agg [.int .u8 (s : Nat), .int .u8 (g : Nat), nv, .int .u8 (q : Nat)] ∧ s < 256 ∧ g < 256 ∧ q < 256 ∧ IsBy nv l ∧ (∀ x ∈ l, x < 256) ∧ (l.length : Int) ≤ 9223372036854775807 := by
  simp only [DatV, u37] at h
  obtain ⟨cs, rfl, h⟩ := h
  rw [Dat] at h
  simp only [u37] at h
  obtain ⟨parts, rfl, hl, hp⟩ := h
  match parts, hl with
  | [a, b, c, e], _ =>
    obtain ⟨n0, rfl, h0⟩ := dat5 (hp 0 _ _ rfl rfl).2
    obtain ⟨n1, rfl, h1⟩ := dat5 (hp 1 _ _ rfl rfl).2
    obtain ⟨v, l, rfl, h2, h3, h4⟩ := dat35 (d := d + 1) (hp 2 _ _ rfl rfl).2
    obtain ⟨n3, rfl, h5⟩ := dat5 (hp 3 _ _ rfl rfl).2
    exact ⟨n0, n1, n3, v, l, rfl, h0, h1, h5, h2, h3, h4⟩
theorem datV35 {d : Nat} {a : AV} (h : DatV prog (d + 2) 35 a) : ∃ l, IsBy a l ∧ (∀ x ∈ l, x < 256) ∧ (l.length : Int) ≤ 9223372036854775807 := by
  simp only [DatV, u35] at h
  obtain ⟨v, l, e, hn⟩ := dat35 h
  simp at e; subst e
  exact ⟨l, hn⟩
theorem datV5 {d : Nat} {a : AV} (h : DatV prog (d + 1) 5 a) : ∃ n : Nat, a = .int .u8 (n : Nat) ∧ n < 256 := by
  simp only [DatV, u5] at h
  obtain ⟨n, e, hn⟩ := dat5 h
  exact ⟨n, by simpa using e, hn⟩
end Go.Proofs.Ythnpflkpjimkfaa

/-
  PLANS: the brand that is made. Conditions: none.
-/
namespace Go.Proofs.Ythnpflkpjimkfaa
open Go.AM
open Go.Proofs.Try (prog)
set_option linter.all false
set_option maxRecDepth 100000
set_option maxHeartbeats 8000000
theorem IsBy.closed {v : AV} {l : List Nat} (h : IsBy v l) : v.closed = true := by rcases h with ⟨rfl, _⟩ | ⟨_, rfl⟩ <;> rfl
theorem IsBy.one {v : AV} {l : List Nat} (h : IsBy v l) : v.one = true := by rcases h with ⟨rfl, _⟩ | ⟨_, rfl⟩ <;> rfl
theorem IsBy.len {v : AV} {l : List Nat} (h : IsBy v l) : lenSl v = some (.int .i64 l.length) := by rcases h with ⟨rfl, rfl⟩ | ⟨_, rfl⟩ <;> rfl
theorem IsBy.idx {v : AV} {l : List Nat} (h : IsBy v l) {i : Nat} (hi : i < l.length) (k : IntKind) : idxSl 1 v (.int k (i : Int)) = some (.fptr ((bytN l).drop i)) := by
  rcases h with ⟨rfl, rfl⟩ | ⟨_, rfl⟩
  · simp at hi
  · simp [hi]
theorem byt_head {l : List Nat} {i : Nat} (h : i < l.length) : ((bytN l).drop i).head? = some (.int .u8 (l.getD i 0 : Nat)) := by
  rw [List.head?_drop]
  simp [bytN, h, List.getD_eq_getElem?_getD]
def entP (l : List Nat) (n k q s a : Nat) : Nat := let w := if s * k + a < l.length then l.getD (s * k + a) 0 % n else 0; if 128 ≤ q then max w s else w
theorem entP_lt {l : List Nat} {n k q s a : Nat} (hs : s < n) : entP l n k q s a < n := by
  unfold entP
  have h1 : (if s * k + a < l.length then l.getD (s * k + a) 0 % n else 0) < n := by
    split
    · exact Nat.mod_lt _ (by omega)
    · omega
  simp only []
  split
  · omega
  · exact h1
def rowP (l : List Nat) (n k q s c : Nat) : List Int := (List.range c).map fun a => ((entP l n k q s a : Nat) : Int)
def rowsP (l : List Nat) (n k q c : Nat) : List (List Int) := (List.range c).map fun s => rowP l n k q s k
def goodP (q c : Nat) : List Bool := (List.range c).map fun s => q.testBit s
noncomputable def KP0 : List Item := [.code l07_Plan_made.r18, .code .ret]
noncomputable def KP2 : List Item := .code l07_Plan_made.r17 :: .inBlock 1 :: .code l07_Plan_made.r5 :: .inLoop l07_Plan_made.l0 :: .inBlock 0 :: KP0
theorem pl_in {a0 a1 : Nat} {nv : AV} {l : List Nat} (hb : IsBy nv l) (hlb : ∀ x ∈ l, x < 256) {q n k s : Nat} (hq : q < 256) (hs : s < n) (n6 : n ≤ 6) (k3 : k ≤ 3) {x2 x5 : AV} {R : Nat} {r : Option Res} :
    ∀ (c a : Nat) (h : Nat → Option AObj) (nx0 : Nat), a + c = k → h R = some (.cells (ints (rowP l n k q s a))) → R < nx0 →
    (∀ h' nx', h' R = some (.cells (ints (rowP l n k q s k))) → nx0 ≤ nx' → (∀ y, y ≠ R → h' y = h y) →
      l07_Plan_made.L2 (.fptr [.int .u8 (a0 : Nat), .int .u8 (a1 : Nat), nv, .int .u8 (q : Nat)]) x2 (.int .i64 n) (.int .i64 k) x5 (.int .i64 s) (.sl R 1 0 k k) (.int .i64 k) ⟨h', nx'⟩ KP2 = r) →
    l07_Plan_made.L2 (.fptr [.int .u8 (a0 : Nat), .int .u8 (a1 : Nat), nv, .int .u8 (q : Nat)]) x2 (.int .i64 n) (.int .i64 k) x5 (.int .i64 s) (.sl R 1 0 a a) (.int .i64 a) ⟨h, nx0⟩ KP2 = r := by
  intro c
  induction c with
  | zero =>
    intro a h nx0 h1 h0 hR hk
    have e : a = k := by omega
    subst e
    exact hk h nx0 h0 (Nat.le_refl _) (fun _ _ => rfl)
  | succ c ih =>
    intro a h nx0 h1 h0 hR hk
    have ha : a < k := by omega
    have hwa : IntKind.wrap .i64 ((a : Int) + 1) = (a : Int) + 1 := wrap_id (by omega) (by omega)
    have hsk : s * k ≤ 18 := by
      have := Nat.mul_le_mul (show s ≤ 6 by omega) k3
      omega
    have hw1 : IntKind.wrap .i64 ((s : Int) * k) = ((s * k : Nat) : Int) := by rw [← Int.natCast_mul]; exact wrap_id (by omega) (by omega)
    have hw2 : IntKind.wrap .i64 (((s * k : Nat) : Int) + a) = ((s * k + a : Nat) : Int) := by rw [← Int.natCast_add]; exact wrap_id (by omega) (by omega)
    have hrl : (rowP l n k q s a).length = a := by simp [rowP]
    have hrl1 : (rowP l n k q s (a + 1)).length = a + 1 := by simp [rowP]
    have hrow : ints (rowP l n k q s a) ++ [.int .i64 ((entP l n k q s a : Nat) : Int)] = ints (rowP l n k q s (a + 1)) := by simp [rowP, List.range_succ, ints]
    have hent := entP_lt (l := l) (k := k) (q := q) (a := a) hs
    have st := ih (a + 1) (upd h R (some (.cells (ints (rowP l n k q s (a + 1)))))) nx0 (by omega) (by simp) hR (fun h' nx' f1 f2 f3 => hk h' nx' f1 f2 (fun y hy => by rw [f3 y hy, updNe hy]))
    simp only [Int.natCast_add, Int.cast_ofNat_Int] at st
    have hemax : ∀ w : Nat, max (w : Int) (s : Int) = ((max w s : Nat) : Int) := fun w => by omega
    have hn0 : ¬ n = 0 := by omega
    by_cases c1 : s * k + a < l.length
    · have hb256 : l.getD (s * k + a) 0 < 256 := by
        have : l.getD (s * k + a) 0 ∈ l := by rw [List.getD_eq_getElem?_getD, List.getElem?_eq_getElem c1]; exact List.getElem_mem c1
        exact hlb _ this
      have hcv := wrapN (x := l.getD (s * k + a) 0) (by omega)
      have hmod : ((l.getD (s * k + a) 0 : Nat) : Int).tmod (n : Int) = ((l.getD (s * k + a) 0 % n : Nat) : Int) := by
        rw [Int.tmod_eq_emod_of_nonneg (by omega)]; simp
      have hhd := byt_head c1
      have hix := hb.idx c1 .i64
      have hlt : ((s * k + a : Nat) : Int) < (l.length : Int) := by omega
      by_cases c2 : 128 ≤ q
      · have he : entP l n k q s a = max (l.getD (s * k + a) 0 % n) s := by simp only [entP, if_pos c1, if_pos c2]
        rw [he] at hrow
        have c2' : (128 : Int) ≤ (q : Int) := by omega
        generalize l.getD (s * k + a) 0 = z at *
        generalize s * k + a = at' at *
        generalize s * k = sk at *
        rw [l07_Plan_made.L2_eq]
        simp [ha, hw1, hw2, hb.len, c1, hix, hhd, hcv, hn0, hmod, c2', hemax, h0, hrl, hrow, hrl1, hwa, st, show a ≤ 4611686018427387903 by omega, show (a + 1) * 8 ≤ 70368744177664 by omega, -Int.natCast_add, -Int.natCast_mul, -Int.natCast_emod]
        done
      · have he : entP l n k q s a = l.getD (s * k + a) 0 % n := by simp only [entP, if_pos c1, if_neg c2]
        rw [he] at hrow
        have c2' : ¬ (128 : Int) ≤ (q : Int) := by omega
        generalize l.getD (s * k + a) 0 = z at *
        generalize s * k + a = at' at *
        generalize s * k = sk at *
        rw [l07_Plan_made.L2_eq]
        simp [ha, hw1, hw2, hb.len, c1, hix, hhd, hcv, hn0, hmod, c2', h0, hrl, hrow, hrl1, hwa, st, show a ≤ 4611686018427387903 by omega, show (a + 1) * 8 ≤ 70368744177664 by omega, -Int.natCast_add, -Int.natCast_mul, -Int.natCast_emod]
        done
    · have hge : ¬ ((s * k + a : Nat) : Int) < (l.length : Int) := by omega
      by_cases c2 : 128 ≤ q
      · have he : entP l n k q s a = s := by simp only [entP, if_neg c1, if_pos c2]; omega
        rw [he] at hrow
        have c2' : (128 : Int) ≤ (q : Int) := by omega
        have hm0 : max (0 : Int) (s : Int) = (s : Int) := by omega
        generalize s * k + a = at' at *
        generalize s * k = sk at *
        rw [l07_Plan_made.L2_eq]
        simp [ha, hw1, hw2, hb.len, c1, c2', hm0, h0, hrl, hrow, hrl1, hwa, st, show a ≤ 4611686018427387903 by omega, show (a + 1) * 8 ≤ 70368744177664 by omega, -Int.natCast_add, -Int.natCast_mul]
        done
      · have he : entP l n k q s a = 0 := by simp only [entP, if_neg c1, if_neg c2]
        rw [he] at hrow
        have c2' : ¬ (128 : Int) ≤ (q : Int) := by omega
        simp only [Int.ofNat_zero, Int.cast_ofNat_Int] at hrow
        generalize s * k + a = at' at *
        generalize s * k = sk at *
        rw [l07_Plan_made.L2_eq]
        simp [ha, hw1, hw2, hb.len, c1, c2', h0, hrl, hrow, hrl1, hwa, st, show a ≤ 4611686018427387903 by omega, show (a + 1) * 8 ≤ 70368744177664 by omega, -Int.natCast_add, -Int.natCast_mul]
        done
theorem frz_62_66 (s : St) : frz1 s 3062066 = bif ap (objId (s.get 62)) (objId (s.get 66)) then some s else none := by rw [← ap_eq]; rfl
theorem frz_64 (s : St) : frz1 s 2000064 = bif nsl (s.get 64) then some s else none := rfl
theorem bit8 {q s : Nat} (hq : q < 256) (hs : s < 6) : binA prog .shr 5 (.int .u8 (q : Nat)) (.int .i64 (s : Nat)) = some (.int .u8 ((q / 2 ^ s : Nat) : Int)) := by
  have h0 : ¬ ((s : Int) < 0) := by omega
  have h1 : min (s : Int).toNat (IntKind.bits .u8) = s := by
    show min (s : Int).toNat 8 = s
    omega
  rw [binA_shr, h1]
  have e : (q : Int).fdiv (2 ^ s) = ((q / 2 ^ s : Nat) : Int) := by
    rw [Int.fdiv_eq_ediv_of_nonneg _ (Int.pow_nonneg (by omega))]
    simp
  simp [h0, e]
theorem and8 {x : Nat} (hx : x < 256) : binA prog .and 5 (.int .u8 (x : Nat)) (.int .u8 1) = some (.int .u8 (if x % 2 = 1 then 1 else 0)) := by
  have key : ∀ x : Fin 256, IntKind.wrap .u8 ((BitVec.ofInt (IntKind.bits .u8) ((x.val : Nat) : Int) &&& BitVec.ofInt (IntKind.bits .u8) 1).toNat : Int) = if x.val % 2 = 1 then 1 else 0 := by decide
  rw [binA_and]
  have := key ⟨x, hx⟩
  simp only [] at this
  rw [this]
def pslP (l : List Nat) (n k q c : Nat) : List AV := (List.range c).map fun s => .fsl false k (ints (rowP l n k q s k))
structure Ol (h : Nat → Option AObj) (o z0 : Nat) (a g : AV) (A G : List AV) (lo hi : Nat) : Prop where
  o : h o = some (.cells [a, g])
  z : h z0 = some (.cells [.nils, .nils])
  na : Nl h a A lo hi
  ng : Nl h g G lo hi
  dj : ∀ y, objId a = some y → objId g ≠ some y
theorem pl_out {a0 a1 : Nat} {nv : AV} {l : List Nat} (hb : IsBy nv l) (hlb : ∀ x ∈ l, x < 256) {q n k : Nat} (hq : q < 256) (n1 : 1 ≤ n) (n6 : n ≤ 6) (k1 : 1 ≤ k) (k3 : k ≤ 3) {o lo : Nat} (ho : o < lo) (ho0 : 0 < o) :
    ∀ (c s : Nat) (h : Nat → Option AObj) (nx0 : Nat) (a g : AV), s + c = n → lo ≤ nx0 → Ol h o 0 a g (pslP l n k q s) (bls (goodP q s)) lo nx0 →
    l07_Plan_made.L0 (.fptr [.int .u8 (a0 : Nat), .int .u8 (a1 : Nat), nv, .int .u8 (q : Nat)]) (.ptr 0 0 2) (.int .i64 n) (.int .i64 k) (.ptr o 0 2) (.int .i64 s) ⟨h, nx0⟩ KP0 = some (.agg [.fsl false n (pslP l n k q n), .fsl false n (bls (goodP q n))], Mem.empty) := by
  intro c
  induction c with
  | zero =>
    intro s h nx0 a g h1 hlo O
    have e : s = n := by omega
    subst e
    have na : Nl (upd h 0 (some (AObj.cells [a, g]))) a (pslP l s k q s) lo nx0 := O.na.fr (fun y y1 _ _ => updNe (by omega)) (Nat.le_refl _)
    have ng : Nl (upd h 0 (some (AObj.cells [a, g]))) g (bls (goodP q s)) lo nx0 := O.ng.fr (fun y y1 _ _ => updNe (by omega)) (Nat.le_refl _)
    have hne1 : pslP l s k q s ≠ [] := by intro e; have := congrArg List.length e; simp [pslP] at this; omega
    have hne2 : bls (goodP q s) ≠ [] := by intro e; have := congrArg List.length e; simp [goodP] at this; omega
    have da := na.deep 4 (fun x hx => by
      simp only [pslP, List.mem_map] at hx
      obtain ⟨q, _, rfl⟩ := hx
      rfl) (na.nn hne1)
    have dg := ng.deep 4 (fun x hx => by
      simp only [bls, List.mem_map] at hx
      obtain ⟨q, _, rfl⟩ := hx
      rfl) (ng.nn hne2)
    have l1 : (pslP l s k q s).length = s := by simp [pslP]
    have l2 : (bls (goodP q s)).length = s := by simp [goodP]
    rw [l1] at da
    rw [l2] at dg
    rw [l07_Plan_made.L0_eq]
    simp [O.o, O.z, O.na.one, O.ng.one, KP0]
    simp [da, dg]
    done
  | succ c ih =>
    intro s h nx0 a g h1 hlo O
    have hs : s < n := by omega
    have eR : pslP l n k q s ++ [.fsl false k (ints (rowP l n k q s k))] = pslP l n k q (s + 1) := by simp [pslP, List.range_succ]
    have eG : bls (goodP q s) ++ [.bool (q.testBit s)] = bls (goodP q (s + 1)) := by simp [bls, goodP, List.range_succ]
    have oa := fun y e => (O.na.oid (y := y) e)
    have og := fun y e => (O.ng.oid (y := y) e)
    have st := pl_in (a0 := a0) (a1 := a1) hb hlb (q := q) (n := n) (k := k) (s := s) hq hs n6 k3 (x2 := .ptr 0 0 2) (x5 := .ptr o 0 2) (R := nx0) (r := some (.agg [.fsl false n (pslP l n k q n), .fsl false n (bls (goodP q n))], Mem.empty)) k 0 (upd h nx0 (some (.cells []))) (nx0 + 1) (by omega) (by simp [rowP]) (by omega) (fun h' nx' w1 hnx' hfr0 => by
      have hfr : ∀ y, y ≠ nx0 → h' y = h y := fun y hy => by rw [hfr0 y hy, updNe hy]
      have rl : (rowP l n k q s k).length = k := by simp [rowP]
      have na1 : Nl (upd h' nx0 none) a (pslP l n k q s) lo nx0 := O.na.fr (fun y y1 y2 _ => by rw [updNe (by omega), hfr y (by omega)]) (Nat.le_refl _)
      have lR : (pslP l n k q s).length ≤ 6 := by simp [pslP]; omega
      have lG : (bls (goodP q s)).length ≤ 6 := by simp [goodP]; omega
      obtain ⟨v1, h2, n2, g1, g2, g3, g4, g5, g6, g7⟩ := na1.app (nx := nx' + 4) (by' := 24) (by omega) (by omega) (by simp; omega) (.fsl false k (ints (rowP l n k q s k)))
      have hv1 : ∀ y, objId v1 = some y → lo ≤ y ∧ (y < nx0 ∨ y = nx' + 4) := fun y e => by
        rcases g5 y e with q | q
        · have := oa y q; omega
        · omega
      have ng1 : Nl h2 g (bls (goodP q s)) lo nx0 := O.ng.fr (fun y y1 y2 ye => by
        rw [g6 y (fun e => by
          rcases g5 y e with q | q
          · exact O.dj y q ye
          · omega), updNe (by omega), hfr y (by omega)]) (Nat.le_refl _)
      obtain ⟨v2, h3, n3, u1, u2, u3, u4, u5, u6, u7⟩ := ng1.app (nx := nx' + 14) (by' := 1) (by omega) (by omega) (by simp only [room_dec, Bool.and_eq_true, decide_eq_true_eq]; omega) (.bool (q.testBit s))
      have hv2 : ∀ y, objId v2 = some y → lo ≤ y ∧ (objId g = some y ∨ y = nx' + 14) := fun y e => by
        rcases u5 y e with q | q
        · have := og y q; exact ⟨this.1, .inl q⟩
        · exact ⟨by omega, .inr q⟩
      have low : ∀ y, y < lo → h3 y = h y := fun y hy => by
        rw [u6 y (fun e => by have := hv2 y e; omega), g6 y (fun e => by have := hv1 y e; omega), updNe (by omega), hfr y (by omega)]
      have lo2 : ∀ y, y < lo → h2 y = h y := fun y hy => by
        rw [g6 y (fun e => by have := hv1 y e; omega), updNe (by omega), hfr y (by omega)]
      have ho' : h' o = some (.cells [a, g]) := by rw [hfr o (by omega)]; exact O.o
      have ho2 : h2 o = some (.cells [a, g]) := by rw [lo2 o ho]; exact O.o
      have ho3 : h3 o = some (.cells [a, g]) := by rw [low o ho]; exact O.o
      have a1' := ap_lt (z := o) (fun y e => (oa y e).1) ho
      have hwk : IntKind.wrap .i64 ((s : Int) + 1) = (s : Int) + 1 := wrap_id (by omega) (by omega)
      have fin4 : ∀ y, y < lo → y ≠ o → (upd h3 o (some (.cells [v1, v2]))) y = h y := fun y y1 y2 => by rw [updNe y2, low y y1]
      have st3 := ih (s + 1) (upd h3 o (some (.cells [v1, v2]))) (nx' + 19) v1 v2 (by omega) (by omega)
        ⟨by simp, by rw [fin4 0 (by omega) (by omega)]; exact O.z,
          by
            rw [← eR]
            exact g2.fr (fun y y1 y2 ye => by
              rw [updNe (by omega), u6 y (fun e => by
                rcases (hv2 y e).2 with q | q
                · rcases g5 y ye with w | w
                  · exact O.dj y w q
                  · have := og y q; omega
                · have := (hv1 y ye).2; omega)]) (by omega),
          by
            rw [← eG]
            exact u2.fr (fun y y1 y2 ye => by rw [updNe (by omega)]) (by omega),
          fun y e1 e2 => by
            rcases (hv2 y e2).2 with q | q
            · rcases g5 y e1 with w | w
              · exact O.dj y w q
              · have := og y q; omega
            · have := (hv1 y e1).2; omega⟩
      simp only [Int.natCast_add, Int.cast_ofNat_Int] at st3
      have hoR : (o == nx0) = false := beq_eq_false_iff_ne.2 (by omega)
      have rtk : (ints (rowP l n k q s k)).take k = ints (rowP l n k q s k) := List.take_of_length_le (by simp [rl])
      have b8 := bit8 (q := q) (s := s) hq (by omega)
      have hq2 : q / 2 ^ s < 256 := Nat.lt_of_le_of_lt (Nat.div_le_self _ _) hq
      have n8 := and8 hq2
      have htb : q.testBit s = decide (q / 2 ^ s % 2 = 1) := by rw [Nat.testBit_eq_decide_div_mod_eq]
      generalize q / 2 ^ s = qs at *
      have he8 : binA prog .eql 5 (.int .u8 (if qs % 2 = 1 then 1 else 0)) (.int .u8 1) = some (.bool (q.testBit s)) := by
        rw [htb]
        by_cases w : qs % 2 = 1 <;> simp [w]
      rw [l07_Plan_made.L2_eq]
      simp [KP2, w1, rl, rtk, hoR, ho', ho2, ho3, g1, O.na.one, O.ng.one, b8, n8, he8, u1, (show v1.one = true from g2.one), (show v2.one = true from u2.one), frz_62_66, frz_64, nsl, a1', hwk, st3, frzL, -binA_shr, -binA_and]
      done)
    simp only [Int.ofNat_zero, Int.cast_ofNat_Int, KP2] at st
    rw [l07_Plan_made.L0_eq]
    simp [hs]
    exact st
end Go.Proofs.Ythnpflkpjimkfaa

/-
  STATES NUMBERED ANEW: what the law's loops make. Conditions: none.
-/
namespace Go.Proofs.Ythnpflkpjimkfaa
open Go.AM
open Go.Proofs.Try (prog)
set_option linter.all false
set_option maxRecDepth 100000
set_option maxHeartbeats 8000000
noncomputable def KA2 : List Item := [.code l07_BrandSame.r17, .code l07_BrandSame.i3, .code l07_BrandSame.r28, .code l07_BrandSame.r29, .code l07_BrandSame.r30, .code l07_BrandSame.r31, .code l07_BrandSame.r32, .code l07_BrandSame.r33, .code l07_BrandSame.i7, .code l07_BrandSame.r35, .code l07_BrandSame.r36, .code l07_BrandSame.r37, .code l07_BrandSame.r38, .code .ret]
noncomputable def KA0 : List Item := .code l07_BrandSame.r8 :: .code l07_BrandSame.r9 :: .code l07_BrandSame.k2 :: KA2
noncomputable def KA4 : List Item := .code l07_BrandSame.r16 :: .inBlock 3 :: .code l07_BrandSame.r11 :: .inLoop l07_BrandSame.l2 :: .inBlock 2 :: KA2
def nums (n y c : Nat) : List Nat := (List.range c).map (nbS n y)
@[simp] theorem nums_len (n y c : Nat) : (nums n y c).length = c := by simp [nums]
theorem natL_get {l : List Nat} {i : Nat} (h : i < l.length) : (natL l)[i]'(by simpa using h) = .int .i64 (l[i] : Nat) := by simp [natL, natV]
theorem sa_num {x2 x7 : AV} {n y : Nat} (n6 : n ≤ 6) (hy : y < 256) {Nn nx0 : Nat} {r : Option Res} : ∀ (c s : Nat) (h : Nat → Option AObj), s + c = n → 1 ≤ s → h Nn = some (.cells (natL (nums n y s))) →
    (∀ h', h' Nn = some (.cells (natL (nums n y n))) → (∀ z, z ≠ Nn → h' z = h z) → l07_BrandSame.L0 (.int .u8 (y : Nat)) x2 x7 (.int .i64 n) (.sl Nn 1 0 n n) (.int .i64 n) ⟨h', nx0⟩ KA0 = r) →
    l07_BrandSame.L0 (.int .u8 (y : Nat)) x2 x7 (.int .i64 n) (.sl Nn 1 0 s s) (.int .i64 s) ⟨h, nx0⟩ KA0 = r := by
  intro c
  induction c with
  | zero =>
    intro s h h1 hs0 h0 hk
    have e : s = n := by omega
    subst e
    exact hk h h0 (fun _ _ => rfl)
  | succ c ih =>
    intro s h h1 hs0 h0 hk
    have hs : s < n := by omega
    have hws : IntKind.wrap .i64 ((s : Int) + 1) = (s : Int) + 1 := wrap_id (by omega) (by omega)
    have w1 : IntKind.wrap .i64 ((s : Int) - 1) = ((s - 1 : Nat) : Int) := by rw [wrap_id (by omega) (by omega)]; omega
    have w2 : IntKind.wrap .i64 ((y : Nat) : Int) = (y : Nat) := wrap_id (by omega) (by omega)
    have w3 : IntKind.wrap .i64 (((s - 1 : Nat) : Int) + (y : Nat)) = ((s - 1 + y : Nat) : Int) := by rw [wrap_id (by omega) (by omega)]; omega
    have w4 : IntKind.wrap .i64 ((n : Int) - 1) = ((n - 1 : Nat) : Int) := by rw [wrap_id (by omega) (by omega)]; omega
    have hm : ((s - 1 + y : Nat) : Int).tmod ((n - 1 : Nat) : Int) = (((s - 1 + y) % (n - 1) : Nat) : Int) := by rw [Int.tmod_eq_emod_of_nonneg (by omega)]; simp
    have hml := Nat.mod_lt (s - 1 + y) (show 0 < n - 1 by omega)
    have w5 : IntKind.wrap .i64 ((((s - 1 + y) % (n - 1) : Nat) : Int) + 1) = ((nbS n y s : Nat) : Int) := by
      rw [wrap_id (by omega) (by omega), nbS, if_neg (by omega)]; omega
    have hn0 : ¬ n - 1 = 0 := by omega
    have hn0' : ¬ ((n - 1 : Nat) : Int) = 0 := by omega
    have he : natL (nums n y s) ++ [.int .i64 (nbS n y s : Nat)] = natL (nums n y (s + 1)) := by simp [nums, natL, natV, List.range_succ]
    have st := ih (s + 1) (upd h Nn (some (.cells (natL (nums n y (s + 1)))))) (by omega) (by omega) (by simp [upd]) (fun h' f1 f2 => hk h' f1 (fun z hz => by rw [f2 z hz, updNe hz]))
    simp only [Int.natCast_add, Int.cast_ofNat_Int] at st
    simp only [Int.natCast_add, Int.cast_ofNat_Int] at w3 hm
    generalize hb : nbS n y s = b at *
    generalize s - 1 = s1 at *
    generalize (s1 + y) % (n - 1) = md at *
    generalize n - 1 = n1 at *
    rw [l07_BrandSame.L0_eq]
    simp [hs, w1, w2, w3, w4, hm, w5, hn0, hn0', h0, he, hws, show s ≤ 4611686018427387903 by omega, show (s + 1) * 8 ≤ 70368744177664 by omega, -Int.natCast_emod]
    exact st
theorem frz_75_88 (s : St) : frz1 s 3075088 = bif ap (objId (s.get 75)) (objId (s.get 88)) then some s else none := by rw [← ap_eq]; rfl
theorem frz_79_88 (s : St) : frz1 s 3079088 = bif ap (objId (s.get 79)) (objId (s.get 88)) then some s else none := by rw [← ap_eq]; rfl
theorem frz_100 (s : St) : frz1 s 2000100 = bif nsl (s.get 100) then some s else none := rfl
theorem ap_gt {x : Option Nat} {z lo : Nat} (h : ∀ y, x = some y → lo ≤ y) (hz : z < lo) : ap (some z) x = true := by
  cases x with
  | none => rfl
  | some y =>
    have : (z == y) = false := beq_eq_false_iff_ne.2 (by have := h y rfl; omega)
    simp [ap, this]
def fulR (rows : List (List Int)) (k y s : Nat) : List Nat := (List.range k).map fun a => nbS rows.length y (nx rows s a)
theorem sa_in {x1 x2 nv gv : AV} {ps : List AV} {rows : List (List Int)} {good : List Bool} {k y : Nat} (hn : IsRows nv ps rows) (v : VB rows good k) {Nn o T G lo : Nat} (lN : Nn < lo) (lO : o < lo) (lT : T < lo) (dTo : T ≠ o) (dTN : T ≠ Nn) {s : Nat} (hs : s < rows.length) {r : Option Res} :
    ∀ (c a : Nat) (h : Nat → Option AObj) (nx0 : Nat) (vs : List AV) (L : List (List Nat)), a + c = k → Tb h T vs L lo nx0 → lo ≤ nx0 → L.length = rows.length → lat L (nbS rows.length y s) = (fulR rows k y s).take a → h Nn = some (.cells (natL (nums rows.length y rows.length))) → h o = some (.cells [.sl T 1 0 rows.length rows.length, .sl G 1 0 rows.length rows.length]) →
    (∀ h' nx' vs', Tb h' T vs' (L.set (nbS rows.length y s) (fulR rows k y s)) lo nx' → lo ≤ nx' → (∀ z, z < lo → z ≠ T → h' z = h z) → l07_BrandSame.L4 x1 x2 (.fptr [nv, gv]) (.int .i64 rows.length) (.sl Nn 1 0 rows.length rows.length) (.ptr o 0 2) (.int .i64 s) (.int .i64 k) ⟨h', nx'⟩ KA4 = r) →
    l07_BrandSame.L4 x1 x2 (.fptr [nv, gv]) (.int .i64 rows.length) (.sl Nn 1 0 rows.length rows.length) (.ptr o 0 2) (.int .i64 s) (.int .i64 a) ⟨h, nx0⟩ KA4 = r := by
  have n6 := v.n6
  have k3 := v.k3
  have hnb := nbS_lt (y := y) hs
  have fl : (fulR rows k y s).length = k := by simp [fulR]
  intro c
  induction c with
  | zero =>
    intro a h nx0 vs L h1 B hlo hL hla hN ho hk
    have e : a = k := by omega
    subst e
    rw [List.take_of_length_le (by omega)] at hla
    have e2 : L.set (nbS rows.length y s) (fulR rows a y s) = L := by
      rw [← hla]
      have : nbS rows.length y s < L.length := by omega
      refine List.ext_getElem (by simp) fun i a1 a2 => ?_
      rw [List.getElem_set]
      split
      · rename_i e; subst e; simp [lat, this, List.getD_eq_getElem?_getD]
      · rfl
    exact hk h nx0 vs (by rw [e2]; exact B) hlo (fun _ _ _ => rfl)
  | succ c ih =>
    intro a h nx0 vs L h1 B hlo hL hla hN ho hk
    have ha : a < k := by omega
    have hwa : IntKind.wrap .i64 ((a : Int) + 1) = (a : Int) + 1 := wrap_id (by omega) (by omega)
    obtain ⟨c1, c2⟩ := nx_lt v hs ha
    have iw := hn.row s hs
    have rl := v.rl s hs
    have d1 := iw.idx (i := a) (by omega) .i64
    have e1 := ints_head (l := cth rows s) (i := a) (by omega)
    rw [c2] at e1
    have x1' := hn.idx hs .i64
    have x2' := hn.head hs
    have nl := nums_len rows.length y rows.length
    have g1 := natL_get (l := nums rows.length y rows.length) (i := s) (by omega)
    have g2 := natL_get (l := nums rows.length y rows.length) (i := nx rows s a) (by omega)
    have v1 : (nums rows.length y rows.length)[s]'(by omega) = nbS rows.length y s := by simp [nums]
    have v2 : (nums rows.length y rows.length)[nx rows s a]'(by omega) = nbS rows.length y (nx rows s a) := by simp [nums]
    rw [v1] at g1
    rw [v2] at g2
    have hiL : nbS rows.length y s < L.length := by omega
    obtain ⟨v', h', nx', p1, p2, p3, p4⟩ := B.push (nx := nx0 + 26) (by omega) hlo hiL (by rw [hla, List.length_take]; omega) (nbS rows.length y (nx rows s a))
    have hld := B.ld hiL
    have hoid := fun z (e : objId (vat vs (nbS rows.length y s)) = some z) => ((B.e _ hiL).oid e).1
    have hone := (B.e _ hiL).one
    have hrow' : lat (L.set (nbS rows.length y s) (lat L (nbS rows.length y s) ++ [nbS rows.length y (nx rows s a)])) (nbS rows.length y s) = (fulR rows k y s).take (a + 1) := by
      rw [lat_set hiL, if_pos rfl, hla, List.take_add_one]
      congr 1
      simp [fulR, ha]
    have st := ih (a + 1) (upd h' T (some (.cells (vs.set (nbS rows.length y s) v')))) (nx0 + 29) (vs.set (nbS rows.length y s) v') _ (by omega) (p3.fr (fun _ _ => rfl) (by omega) (by omega)) (by omega) (by simp [hL]) hrow' (by rw [p4 Nn lN (Ne.symm dTN), hN]) (by rw [p4 o lO (Ne.symm dTo), ho]) (fun h2 nx2 vs2 f1 f2 f3 => hk h2 nx2 vs2 (by rw [lset_set] at f1; exact f1) f2 (fun z z1 z2 => by rw [f3 z z1 z2, p4 z z1 z2]))
    simp only [Int.natCast_add, Int.cast_ofNat_Int] at st
    simp only [natV] at p1
    rw [hL] at hld p2
    have ap1 := ap_gt (z := o) (lo := lo) hoid lO
    have ap2 := ap_gt (z := Nn) (lo := lo) hoid lN
    have hN' : h Nn = some (.cells (natL (nums rows.length y rows.length))) := hN
    have ho' : h' o = some (.cells [.sl T 1 0 rows.length rows.length, .sl G 1 0 rows.length rows.length]) := by
      have := p4 o lO (Ne.symm dTo)
      rw [updNe (Ne.symm dTo)] at this
      rw [this, ho]
    generalize nbS rows.length y s = bs at *
    generalize nbS rows.length y (nx rows s a) = bx at *
    generalize vat vs bs = vv at *
    rw [l07_BrandSame.L4_eq]
    simp [hs, x1', x2', iw.len, rl, ha, ho, hN, nl, g1, g2, hnb, hld, hone, d1, e1, c1, p1, p2, frz_75_88, frz_79_88, frz_100, nsl, ap1, ap2, frzL, hwa, -List.head?_drop]
    exact st
end Go.Proofs.Ythnpflkpjimkfaa

/-
  STATES NUMBERED ANEW, AND DOUBLED: what the law's loops make. Conditions: none.
-/
namespace Go.Proofs.Ythnpflkpjimkfaa
open Go.AM
open Go.Proofs.Try (prog)
set_option linter.all false
set_option maxRecDepth 100000
set_option maxHeartbeats 8000000
structure Bm (h : Nat → Option AObj) (o T G : Nat) (vs : List AV) (L : List (List Nat)) (g : List Bool) (lo hi : Nat) : Prop where
  b : Tb h T vs L lo hi
  o : h o = some (.cells [.sl T 1 0 L.length L.length, .sl G 1 0 g.length g.length])
  g : h G = some (.cells (bls g))
theorem sa_out {x1 x2 nv gv : AV} {ps : List AV} {rows : List (List Int)} {good : List Bool} {k y : Nat} (hn : IsRows nv ps rows) (hg : IsB gv good) (v : VB rows good k) {Nn o T G lo : Nat} (lN : Nn < lo) (lO : o < lo) (lT : T < lo) (lG : G < lo) (dTo : T ≠ o) (dTN : T ≠ Nn) (dGo : G ≠ o) (dGN : G ≠ Nn) (dGT : G ≠ T) {r : Option Res}
    (hk : ∀ h' nx' vs' L' g', Bm h' o T G vs' L' g' lo nx' → Ren rows good k y L' g' → lo ≤ nx' → l07_BrandSame.L2 x1 x2 (.fptr [nv, gv]) (.int .i64 rows.length) (.sl Nn 1 0 rows.length rows.length) (.ptr o 0 2) (.int .i64 rows.length) ⟨h', nx'⟩ KA2 = r) :
    ∀ (c s : Nat) (h : Nat → Option AObj) (nx0 : Nat) (vs : List AV) (L : List (List Nat)) (g : List Bool), s + c = rows.length → lo ≤ nx0 → Bm h o T G vs L g lo nx0 → L.length = rows.length → g.length = rows.length → h Nn = some (.cells (natL (nums rows.length y rows.length))) →
    (∀ t, t < rows.length → lat L (nbS rows.length y t) = if t < s then fulR rows k y t else []) → (∀ t, t < s → bnth g (nbS rows.length y t) = bnth good t) →
    l07_BrandSame.L2 x1 x2 (.fptr [nv, gv]) (.int .i64 rows.length) (.sl Nn 1 0 rows.length rows.length) (.ptr o 0 2) (.int .i64 s) ⟨h, nx0⟩ KA2 = r := by
  have n6 := v.n6
  have hgl := v.gl
  intro c
  induction c with
  | zero =>
    intro s h nx0 vs L g h1 hlo M hL hgL hN hr hgd
    have e : s = rows.length := by omega
    subst e
    exact hk h nx0 vs L g M ⟨hL, hgL, fun t ht => by rw [hr t ht, if_pos ht]; rfl, hgd⟩ hlo
  | succ c ih =>
    intro s h nx0 vs L g h1 hlo M hL hgL hN hr hgd
    have hs : s < rows.length := by omega
    have hnb := nbS_lt (y := y) hs
    have hws : IntKind.wrap .i64 ((s : Int) + 1) = (s : Int) + 1 := wrap_id (by omega) (by omega)
    have ho := M.o
    rw [hL, hgL] at ho
    have b1 := bls_head (bs := good) (i := s) (by omega)
    have gx := hg.idx (i := s) (by omega) .i64
    have nl := nums_len rows.length y rows.length
    have g1 := natL_get (l := nums rows.length y rows.length) (i := s) (by omega)
    have v1 : (nums rows.length y rows.length)[s]'(by omega) = nbS rows.length y s := by simp [nums]
    rw [v1] at g1
    have st := sa_in (x1 := x1) (x2 := x2) (gv := gv) hn v (y := y) lN lO lT dTo dTN (G := G) hs (r := r) k 0 h nx0 vs L (by omega) M.b hlo hL (by rw [hr s hs, if_neg (by omega)]; rfl) hN ho (fun h' nx' vs' B' hlo' fr => by
      have ho' : h' o = some (.cells [.sl T 1 0 rows.length rows.length, .sl G 1 0 rows.length rows.length]) := by rw [fr o lO (Ne.symm dTo), ho]
      have hN' : h' Nn = some (.cells (natL (nums rows.length y rows.length))) := by rw [fr Nn lN (Ne.symm dTN), hN]
      have hG' : h' G = some (.cells (bls g)) := by rw [fr G lG dGT, M.g]
      have hLs : (L.set (nbS rows.length y s) (fulR rows k y s)).length = rows.length := by simp [hL]
      have hgs : (g.set (nbS rows.length y s) (bnth good s)).length = rows.length := by simp [hgL]
      have B2 : Tb (upd h' G (some (.cells (bls (g.set (nbS rows.length y s) (bnth good s)))))) T vs' (L.set (nbS rows.length y s) (fulR rows k y s)) lo (nx' + 13) := by
        refine ⟨by rw [updNe (Ne.symm dGT), B'.o], B'.l, fun i hi => (B'.e i hi).fr (fun z z1 z2 _ => updNe (by omega)) (by omega), B'.dj, B'.t⟩
      have st2 := ih (s + 1) (upd h' G (some (.cells (bls (g.set (nbS rows.length y s) (bnth good s)))))) (nx' + 13) vs' (L.set (nbS rows.length y s) (fulR rows k y s)) (g.set (nbS rows.length y s) (bnth good s)) (by omega) (by omega) ⟨B2, by rw [hLs, hgs, updNe (Ne.symm dGo), ho'], by simp [upd]⟩ hLs hgs (by rw [updNe (Ne.symm dGN), hN']) (fun t ht => by
        rw [lat_set (by omega)]
        by_cases e : t = s
        · subst e; rw [if_pos rfl, if_pos (by omega)]
        · have : nbS rows.length y s ≠ nbS rows.length y t := fun q => e (nbS_inj hs ht q).symm
          rw [if_neg this, hr t ht]
          by_cases c : t < s
          · rw [if_pos c, if_pos (by omega)]
          · rw [if_neg c, if_neg (by omega)]) (fun t ht => by
        rw [bnth_set (by omega)]
        by_cases e : t = s
        · subst e; rw [if_pos rfl]
        · have : nbS rows.length y s ≠ nbS rows.length y t := fun q => e (nbS_inj hs (by omega) q).symm
          rw [if_neg this]
          exact hgd t (by omega))
      simp only [Int.natCast_add, Int.cast_ofNat_Int] at st2
      have rl := v.rl s hs
      have iw := hn.row s hs
      have x1' := hn.idx hs .i64
      have x2' := hn.head hs
      generalize nbS rows.length y s = bs at *
      generalize bnth good s = gd at *
      have hbg : bs < g.length := by omega
      rw [l07_BrandSame.L4_eq]
      simp [KA4, hs, x1', x2', iw.len, rl, ho', hN', nl, g1, hnb, gx, b1, show s < good.length by omega, hG', hgL, bls_set, hws, -List.head?_drop]
      exact st2)
    simp only [Int.ofNat_zero, Int.cast_ofNat_Int, KA4] at st
    rw [l07_BrandSame.L2_eq]
    simp [hs]
    exact st
theorem Tb.snoc {h h' : Nat → Option AObj} {T : Nat} {vs : List AV} {L : List (List Nat)} {lo hi hi' R : Nat} {l0 : List Nat} (B : Tb h T vs L lo hi) (hl : lo ≤ hi) (hR : hi ≤ R) (hR' : R < hi') (e1 : h' T = some (.cells (vs ++ [.sl R 1 0 l0.length l0.length]))) (e2 : h' R = some (.cells (natL l0))) (e3 : ∀ z, lo ≤ z → z < hi → h' z = h z) : Tb h' T (vs ++ [.sl R 1 0 l0.length l0.length]) (L ++ [l0]) lo hi' := by
  have hv := B.l
  have va : ∀ i, i < L.length → vat (vs ++ [.sl R 1 0 l0.length l0.length]) i = vat vs i := fun i hi => by
    have : i < vs.length := by omega
    simp [vat, List.getD_eq_getElem?_getD, List.getElem?_append_left this]
  have vb : vat (vs ++ [.sl R 1 0 l0.length l0.length]) L.length = .sl R 1 0 l0.length l0.length := by
    rw [← hv]; simp [vat, List.getD_eq_getElem?_getD]
  have la : ∀ i, i < L.length → lat (L ++ [l0]) i = lat L i := fun i hi => by simp [lat, List.getD_eq_getElem?_getD, List.getElem?_append_left hi]
  have lb : lat (L ++ [l0]) L.length = l0 := by simp [lat, List.getD_eq_getElem?_getD]
  have hT := B.t
  refine ⟨e1, by simp [hv], fun i hi => ?_, fun i j hi hj hne z => ?_, hT⟩
  · by_cases c : i < L.length
    · rw [va i c, la i c]
      exact (B.e i c).fr (fun z z1 z2 _ => e3 z z1 z2) (by omega)
    · have : i = L.length := by simp at hi; omega
      subst this
      rw [vb, lb]
      exact .inr ⟨R, by simp, by rw [e2]; rfl, by omega, hR'⟩
  · by_cases c : i < L.length
    · by_cases c2 : j < L.length
      · rw [va i c, va j c2]; exact B.dj i j c c2 hne z
      · have : j = L.length := by simp at hj; omega
        subst this
        rw [va i c, vb]
        intro e e'
        have := (B.e i c).oid e
        simp [objId] at e'
        omega
    · have ei : i = L.length := by simp at hi; omega
      subst ei
      have c2 : j < L.length := by simp at hj; omega
      rw [va j c2, vb]
      intro e e'
      have := (B.e j c2).oid e'
      simp [objId] at e
      omega
noncomputable def KA6 : List Item := [.code l07_BrandSame.r28, .code l07_BrandSame.r29, .code l07_BrandSame.r30, .code l07_BrandSame.r31, .code l07_BrandSame.r32, .code l07_BrandSame.r33, .code l07_BrandSame.i7, .code l07_BrandSame.r35, .code l07_BrandSame.r36, .code l07_BrandSame.r37, .code l07_BrandSame.r38, .code .ret]
noncomputable def KA8 : List Item := .inBlock 7 :: .code l07_BrandSame.r22 :: .inLoop l07_BrandSame.l6 :: .inBlock 6 :: KA6
def rwT (n s0 t a : Nat) (l : List Nat) : List Nat := (List.range l.length).map fun b => if b < a then twE n s0 t b (l.getD b 0) else l.getD b 0
theorem rwT_len (n s0 t a : Nat) (l : List Nat) : (rwT n s0 t a l).length = l.length := by simp [rwT]
theorem rwT_0 (n s0 t : Nat) (l : List Nat) : rwT n s0 t 0 l = l := by
  refine List.ext_getElem (by simp [rwT]) fun i h1 h2 => ?_
  simp [rwT, List.getD_eq_getElem?_getD, h2]
theorem rwT_at {n s0 t a : Nat} {l : List Nat} (h : a < l.length) : (rwT n s0 t a l).getD a 0 = l.getD a 0 := by
  simp [rwT, List.getD_eq_getElem?_getD, h]
theorem rwT_succ {n s0 t a : Nat} {l : List Nat} (h : a < l.length) : rwT n s0 t (a + 1) l = (rwT n s0 t a l).set a (twE n s0 t a (l.getD a 0)) := by
  refine List.ext_getElem (by simp [rwT]) fun i h1 h2 => ?_
  have hi : i < l.length := by simpa [rwT] using h1
  rw [List.getElem_set]
  simp only [rwT, List.getElem_map, List.getElem_range]
  by_cases e : a = i
  · subst e; rw [if_pos (by omega), if_pos rfl]
  · rw [if_neg e]
    by_cases c : i < a
    · rw [if_pos (by omega), if_pos c]
    · rw [if_neg (by omega), if_neg c]
theorem sa_t8 {x2 x7 : AV} {n k s0 : Nat} (n6 : n ≤ 6) (k3 : k ≤ 3) {o T G lo t : Nat} (lO : o < lo) (lT : T < lo) (lG : G < lo) (dTo : T ≠ o) {l0 : List Nat} (hl0 : l0.length = k) (ht : t < n) {r : Option Res} {nx0 : Nat} (hlo : lo ≤ nx0) {vs : List AV} {g : List Bool} :
    ∀ (c a : Nat) (h : Nat → Option AObj) (L : List (List Nat)), a + c = k → Bm h o T G vs L g lo nx0 → L.length = n + 1 → lat L t = rwT n s0 t a l0 →
    (∀ h', Bm h' o T G vs (L.set t (rwT n s0 t k l0)) g lo nx0 → l07_BrandSame.L8 x2 x7 (.int .i64 n) (.ptr o 0 2) (.int .i64 s0) (.int .i64 t) (.int .i64 k) ⟨h', nx0⟩ KA8 = r) →
    l07_BrandSame.L8 x2 x7 (.int .i64 n) (.ptr o 0 2) (.int .i64 s0) (.int .i64 t) (.int .i64 a) ⟨h, nx0⟩ KA8 = r := by
  intro c
  induction c with
  | zero =>
    intro a h L h1 M hL hla hk
    have e : a = k := by omega
    subst e
    have e2 : L.set t (rwT n s0 t a l0) = L := by
      rw [← hla]
      refine List.ext_getElem (by simp) fun i a1 a2 => ?_
      rw [List.getElem_set]
      split
      · rename_i e; subst e; simp [lat, a2, List.getD_eq_getElem?_getD]
      · rfl
    exact hk h (by rw [e2]; exact M)
  | succ c ih =>
    intro a h L h1 M hL hla hk
    have ha : a < k := by omega
    have hwa : IntKind.wrap .i64 ((a : Int) + 1) = (a : Int) + 1 := wrap_id (by omega) (by omega)
    have htL : t < L.length := by omega
    have hlen : (lat L t).length = k := by rw [hla, rwT_len, hl0]
    obtain ⟨R, r1, r2, r3, r4⟩ := M.b.rowv htL (by omega)
    have hld := M.b.ld htL
    rw [r1] at hld
    have ho := M.o
    have hra : (natL (lat L t))[a]'(by rw [natL_len]; omega) = .int .i64 (l0.getD a 0 : Nat) := by
      rw [natL_get (by omega)]
      have h5 : (lat L t).getD a 0 = l0.getD a 0 := by rw [hla, rwT_at (by omega)]
      have : (lat L t)[a]'(by omega) = l0.getD a 0 := by rw [← h5]; simp [List.getD_eq_getElem?_getD, show a < (lat L t).length by omega]
      rw [this]
    have hput := M.b.put hlo htL (a := a) (by omega) (twE n s0 t a (l0.getD a 0)) r1
    rw [hla, ← rwT_succ (by omega)] at hput
    have hsetv : (natL (lat L t)).set a (.int .i64 (n : Nat)) = natL ((lat L t).set a n) := by simp [natL, natV, List.map_set]
    have hwt : IntKind.wrap .i64 ((t : Int) + (a : Int)) = ((t + a : Nat) : Int) := by rw [wrap_id (by omega) (by omega)]; omega
    have hmd : ((t + a : Nat) : Int).tmod 2 = (((t + a) % 2 : Nat) : Int) := by rw [Int.tmod_eq_emod_of_nonneg (by omega)]; simp
    have same : twE n s0 t a (l0.getD a 0) = l0.getD a 0 → rwT n s0 t (a + 1) l0 = rwT n s0 t a l0 := fun e => by
      rw [rwT_succ (by omega), e]
      have : (rwT n s0 t a l0)[a]'(by rw [rwT_len]; omega) = l0.getD a 0 := by
        have := rwT_at (n := n) (s0 := s0) (t := t) (l := l0) (a := a) (by omega)
        rw [← this]
        simp [List.getD_eq_getElem?_getD, show a < (rwT n s0 t a l0).length by rw [rwT_len]; omega]
      rw [← this]; simp
    rw [l07_BrandSame.L8_eq]
    simp only [Int.natCast_add] at hwt hmd
    by_cases q1 : l0.getD a 0 = s0
    · by_cases q2 : (t + a) % 2 = 0
      · -- the entry leads to the twin now
        have etw : twE n s0 t a (l0.getD a 0) = n := by rw [twE, if_pos ⟨q1, q2⟩]
        have e9 : rwT n s0 t (a + 1) l0 = (lat L t).set a n := by rw [rwT_succ (by omega), etw, hla]
        have st := ih (a + 1) (upd h R (some (.cells (natL (rwT n s0 t (a + 1) l0))))) (L.set t (rwT n s0 t (a + 1) l0)) (by omega) ⟨hput, by
          rw [List.length_set, updNe (by omega), M.o], by rw [updNe (by omega), M.g]⟩ (by simp [hL]) (by rw [lat_set htL, if_pos rfl]) (fun h' M' => hk h' (by rw [lset_set] at M'; exact M'))
        simp only [Int.natCast_add, Int.cast_ofNat_Int] at st
        rw [e9, ← hsetv] at st
        have q2' : (((t + a) % 2 : Nat) : Int) = 0 := by omega
        rw [q2'] at hmd
        rw [q1] at hra
        rw [hlen] at r1 hld
        have nl := natL_len (lat L t)
        rw [hlen] at nl
        rw [hL] at ho hld
        simp [ht, ho, hL, hld, hlen, ha, r2, nl, hra, hwt, hmd, hwa, show t < n + 1 by omega, st]
        done
      · have etw : twE n s0 t a (l0.getD a 0) = l0.getD a 0 := by rw [twE, if_neg (fun c => q2 c.2)]
        have st := ih (a + 1) h L (by omega) M hL (by rw [same etw, hla]) hk
        simp only [Int.natCast_add, Int.cast_ofNat_Int] at st
        have q2' : ¬ (((t + a) % 2 : Nat) : Int) = 0 := by omega
        rw [q1] at hra
        rw [hlen] at r1 hld
        have nl := natL_len (lat L t)
        rw [hlen] at nl
        rw [hL] at ho hld
        generalize (t + a) % 2 = md at *
        simp [ht, ho, hL, hld, hlen, ha, r2, nl, hra, hwt, hmd, q2, q2', hwa, show t < n + 1 by omega, st]
        done
    · have etw : twE n s0 t a (l0.getD a 0) = l0.getD a 0 := by rw [twE, if_neg (fun c => q1 c.1)]
      have st := ih (a + 1) h L (by omega) M hL (by rw [same etw, hla]) hk
      simp only [Int.natCast_add, Int.cast_ofNat_Int] at st
      have q1' : ¬ ((l0.getD a 0 : Nat) : Int) = (s0 : Nat) := by omega
      rw [hlen] at r1 hld
      have nl := natL_len (lat L t)
      rw [hlen] at nl
      rw [hL] at ho hld
      generalize l0.getD a 0 = e0 at *
      simp [ht, ho, hL, hld, hlen, ha, r2, nl, hra, q1, q1', hwa, show t < n + 1 by omega, st]
      done
end Go.Proofs.Ythnpflkpjimkfaa

/-
  PLANS: the brand is valid. Conditions: none.
-/
namespace Go.Proofs.Ythnpflkpjimkfaa
open Go.AM
open Go.Proofs.Try (prog)
set_option linter.all false
set_option maxRecDepth 100000
set_option maxHeartbeats 8000000
theorem VB.to {rows : List (List Int)} {good : List Bool} {k : Nat} (v : VB rows good k) : validB rows good = true := by
  have h0 := v.rl 0 v.n1
  unfold validB
  simp only [Bool.and_eq_true, decide_eq_true_eq, List.all_eq_true]
  refine ⟨⟨v.n1, v.n6⟩, v.gl, ⟨by rw [h0]; exact v.k1, by rw [h0]; exact v.k3⟩, fun r hr => ?_⟩
  obtain ⟨i, hi, rfl⟩ := List.getElem_of_mem hr
  have e : cth rows i = rows[i] := by simp [cth, hi, List.getD_eq_getElem?_getD]
  have hl := v.rl i hi
  rw [e] at hl
  unfold rowOk
  simp only [Bool.and_eq_true, decide_eq_true_eq, List.all_eq_true]
  refine ⟨by rw [hl, h0], fun x hx => ?_⟩
  obtain ⟨j, hj, rfl⟩ := List.getElem_of_mem hx
  have := v.rg i j hi (by omega)
  rw [e] at this
  rw [nth_get hj]
  exact this
theorem VB.k0 {rows : List (List Int)} {good : List Bool} {k : Nat} (v : VB rows good k) : (cth rows 0).length = k := v.rl 0 v.n1
theorem planVB {l : List Nat} {n k q : Nat} (n1 : 1 ≤ n) (n6 : n ≤ 6) (k1 : 1 ≤ k) (k3 : k ≤ 3) : VB (rowsP l n k q n) (goodP q n) k := by
  have row : ∀ i, i < n → cth (rowsP l n k q n) i = rowP l n k q i k := fun i hi => by simp [cth, rowsP, hi, List.getD_eq_getElem?_getD]
  refine ⟨by simp [rowsP]; omega, by simp [rowsP]; omega, by simp [rowsP, goodP], k1, k3, fun i hi => ?_, fun i j hi hj => ?_⟩
  · rw [row i (by simpa [rowsP] using hi)]; simp [rowP]
  · have hi' : i < n := by simpa [rowsP] using hi
    rw [row i hi']
    have e : nth (rowP l n k q i k) j = ((entP l n k q i j : Nat) : Int) := by simp [nth, rowP, hj, List.getD_eq_getElem?_getD]
    have := entP_lt (l := l) (k := k) (q := q) (a := j) hi'
    rw [e]
    simp only [rowsP, List.length_map, List.length_range]
    omega
theorem planR {l : List Nat} {n k q : Nat} : IsRows (.fsl false n (pslP l n k q n)) (pslP l n k q n) (rowsP l n k q n) := by
  refine ⟨by simp [pslP, rowsP], fun i hi => ?_, .inr ⟨false, by simp [rowsP]⟩⟩
  have hi' : i < n := by simpa [rowsP] using hi
  have e1 : pth (pslP l n k q n) i = .fsl false k (ints (rowP l n k q i k)) := by simp [pth, pslP, hi', List.getD_eq_getElem?_getD]
  have e2 : cth (rowsP l n k q n) i = rowP l n k q i k := by simp [cth, rowsP, hi', List.getD_eq_getElem?_getD]
  rw [e1, e2]
  exact .inr ⟨false, by simp [rowP]⟩
theorem planG {q n : Nat} : IsB (.fsl false n (bls (goodP q n))) (goodP q n) := .inr ⟨false, by simp [goodP]⟩
theorem plan_spec {a0 a1 q : Nat} {nv : AV} {l : List Nat} (h0 : a0 < 256) (h1 : a1 < 256) (hq : q < 256) (hb : IsBy nv l) (hlb : ∀ x ∈ l, x < 256) :
    ∃ rows good k nv' gv ps, IsRows nv' ps rows ∧ IsB gv good ∧ VB rows good k ∧ ∀ m, denC prog ann 22 [.agg [.int .u8 (a0 : Nat), .int .u8 (a1 : Nat), nv, .int .u8 (q : Nat)]] m = some (.agg [nv', gv], m) := by
  have hn : 1 ≤ a0 % 6 + 1 ∧ a0 % 6 + 1 ≤ 6 := by omega
  have hk : 1 ≤ a1 % 3 + 1 ∧ a1 % 3 + 1 ≤ 3 := by omega
  refine ⟨rowsP l (a0 % 6 + 1) (a1 % 3 + 1) q (a0 % 6 + 1), goodP q (a0 % 6 + 1), a1 % 3 + 1, _, _, pslP l (a0 % 6 + 1) (a1 % 3 + 1) q (a0 % 6 + 1), planR, planG, planVB hn.1 hn.2 hk.1 hk.2, fun m => ?_⟩
  have c0 := wrapN (x := a0) (by omega)
  have c1 := wrapN (x := a1) (by omega)
  have m0 : ((a0 : Nat) : Int).tmod 6 = ((a0 % 6 : Nat) : Int) := by rw [Int.tmod_eq_emod_of_nonneg (by omega)]; simp
  have m1 : ((a1 : Nat) : Int).tmod 3 = ((a1 % 3 : Nat) : Int) := by rw [Int.tmod_eq_emod_of_nonneg (by omega)]; simp
  have w0 : IntKind.wrap .i64 (((a0 % 6 : Nat) : Int) + 1) = ((a0 % 6 + 1 : Nat) : Int) := by
    rw [wrap_id (by omega) (by omega)]; omega
  have w1 : IntKind.wrap .i64 (((a1 % 3 : Nat) : Int) + 1) = ((a1 % 3 + 1 : Nat) : Int) := by
    rw [wrap_id (by omega) (by omega)]; omega
  generalize a0 % 6 = n0 at *
  generalize a1 % 3 = k0 at *
  have lp := pl_out (a0 := a0) (a1 := a1) hb hlb (q := q) (n := n0 + 1) (k := k0 + 1) hq hn.1 hn.2 hk.1 hk.2 (o := 13) (lo := 14) (by omega) (by omega) (n0 + 1) 0 (upd (upd Mem.empty.h 0 (some (.cells [.nils, .nils]))) 13 (some (.cells [.nils, .nils]))) 14 .nils .nils (by omega) (by omega) ⟨by simp, by simp, .nil, .nil, by simp [objId]⟩
  simp only [Int.ofNat_zero, Int.cast_ofNat_Int, KP0] at lp
  rw [l07_Plan_made.call_eq _ _ (by simp [hb.closed])]
  simp [hb.one, hb.closed, c0, c1, m0, m1, w0, w1, -Int.natCast_add, -Int.natCast_emod]
  rw [lp]
  rfl
end Go.Proofs.Ythnpflkpjimkfaa

/-
  THE WORDS OF A MONOID ARE THE LEAST ONES: plain law. Conditions: none.
-/
namespace Go.Proofs.Ythnpflkpjimkfaa
open Go.AM
open Go.Proofs.Try (prog)
set_option linter.all false
set_option maxRecDepth 100000
set_option maxHeartbeats 8000000
def rk (w : List UInt8) : Nat := w.foldl (fun n c => n * 256 + (c.toNat + 1)) 0
section
variable {rows : List (List Int)} {k : Nat}
def OrI (rows : List (List Int)) (S : SM) (j b : Nat) : Prop := ∃ m, S.1[m]? = some (nxM rows (S.1.getD j []) b) ∧ rk (S.2.getD m []) ≤ rk (S.2.getD j []) * 256 + (98 + b)
theorem OrI.app {S : SM} {j b : Nat} (h : OrI rows S j b) (hl : S.1.length = S.2.length) (hj : j < S.1.length) (p : List (List Nat)) (q : List (List UInt8)) : OrI rows (S.1 ++ p, S.2 ++ q) j b := by
  obtain ⟨m, h1, h2⟩ := h
  have hm := (List.getElem?_eq_some_iff.1 h1).1
  have g1 : ∀ i, i < S.1.length → (S.1 ++ p).getD i [] = S.1.getD i [] := fun i hi => by simp [List.getD_eq_getElem?_getD, List.getElem?_append_left hi]
  have g2 : ∀ i, i < S.1.length → (S.2 ++ q).getD i [] = S.2.getD i [] := fun i hi => by
    have : i < S.2.length := by omega
    simp [List.getD_eq_getElem?_getD, List.getElem?_append_left this]
  refine ⟨m, ?_, ?_⟩
  · simp only []
    rw [g1 j hj, List.getElem?_append_left hm]; exact h1
  · simp only []
    rw [g2 m hm, g2 j hj]; exact h2
structure Srt (S : SM) (b : Nat) : Prop where
  l : S.1.length = S.2.length
  s : S.2.Pairwise fun u w => rk u < rk w
  b : ∀ y ∈ S.2, rk y < b
end
section
variable {rows : List (List Int)} {good : List Bool} {k : Nat} {S : SM}
structure Least (rows : List (List Int)) (k : Nat) (S : SM) : Prop where
  inc : ∀ i j, i < j → j < S.1.length → rk (wrd S i) < rk (wrd S j)
  le : ∀ w, okW k w → rk (wrd S (numM rows S w)) ≤ rk w
end
end Go.Proofs.Ythnpflkpjimkfaa

/-
  BODIES OF FUNCTIONS OF THE PROGRAM AS SMALL OPERATIONS (written by gen.py; checked by the kernel against the program). Conditions: none.
-/
namespace Go.Proofs.Ythnpflkpjimkfaa
open Go.AM
open Go.Proofs.Try (prog)
set_option maxRecDepth 100000
set_option linter.all false
namespace l07_word
noncomputable section
variable (K : List Item) (s : St)
def b : Code := (Try.f35.body).getD .skip
theorem hf : prog.funcs[35]? = some Try.f35 := by kernel_rfl
def r0 := findReg b 0
def r1 := findReg b 1
def r2 := findReg b 2
def k0 := findBlk b 0
def l0 := loopOf k0
def L0 (x1 x2 x7 x8 x9 : AV) (m : Mem) (K : List Item) : Option Res := den prog ann 35 (.code l0 :: .inLoop l0 :: .inBlock 0 :: K) ⟨[(1, x1), (2, x2), (7, x7), (8, x8), (9, x9)], 45, m⟩
def r3 := findReg b 3
def i0 := findCond b 0
def i0t := thenOf i0
def i0e := elseOf i0
def k1 := findBlk b 1
def r5 := findReg b 5
def r4 := findReg b 4
def r6 := findReg b 6
theorem b_eq : den prog ann 35 (.code b :: K) s = den prog ann 35 (.code r0 :: .code r1 :: .code r2 :: .code k0 :: .code r6 :: .code .ret :: K) s := den_flat hf (l := [r0, r1, r2, k0, r6, .ret]) (by kernel_rfl) K s
theorem r0_eq : den prog ann 35 (.code r0 :: K) s = mreg prog ann 35 none [] none [] [qA 3 frozenPtr 0,qF 6 fun s => some (.str [])] K s := (den_reg hf _ K s).trans (by kernel_rfl)
theorem r1_draw : drawOk (fun g => (ann g).pure) (modeOf (ann 35) (idOf r1)) (frzOf (ann 35) (idOf r1)) (opsOf r1) = true := drawOk_of (an := [0, 1, 3, 7, 15, 0, 63]) (by kernel_rfl) (by kernel_rfl)
theorem r1_eq : den prog ann 35 (.code r1 :: K) s = mreg prog ann 35 none [] (some 7) [] [qA 10 (fieldA 0) 3,qA 11 (loadF false 1) 10,qF 12 fun s => idxSl 1 (s.get 11) (.int .i64 0),qA 13 (loadF false 1) 12,qA 14 lenSl 13,qF 7 fun s => some (.str []),qC 8 14] K s := (den_regD hf r1_draw K s).trans (by kernel_rfl)
theorem r2_eq : den prog ann 35 (.code r2 :: K) s = mreg prog ann 35 none [] none [] [qF 9 fun s => some (.int .i64 0)] K s := (den_reg hf _ K s).trans (by kernel_rfl)
theorem k0_eq (K : List Item) (t : List (Nat × AV)) (m : Mem) : den prog ann 35 (.code k0 :: K) ⟨t, 45, m⟩ = L0 (get t 1) (get t 2) (get t 7) (get t 8) (get t 9) m K := den_loop_enter hf (b := l0) (id := 3) (l := [1, 2, 7, 8, 9]) (by kernel_rfl) (by kernel_rfl) (by kernel_rfl) K _
theorem l0_eq (K : List Item) (t : List (Nat × AV)) (m : Mem) : den prog ann 35 (.inLoop l0 :: .inBlock 0 :: K) ⟨t, 45, m⟩ = L0 (get t 1) (get t 2) (get t 7) (get t 8) (get t 9) m K := den_loop_again hf (id := 3) (l := [1, 2, 7, 8, 9]) (by kernel_rfl) (by kernel_rfl) (.inBlock 0 :: K) _
theorem L0_eq (x1 x2 x7 x8 x9 : AV) (m : Mem) (K : List Item) : L0 x1 x2 x7 x8 x9 m K = den prog ann 35 (.code r3 :: .code i0 :: .code k1 :: .code r4 :: .inLoop l0 :: .inBlock 0 :: K) ⟨[(1, x1), (2, x2), (7, x7), (8, x8), (9, x9)], 45, m⟩ := den_flat hf (l := [r3, i0, k1, r4]) (by kernel_rfl) _ _
theorem r3_eq : den prog ann 35 (.code r3 :: K) s = mreg prog ann 35 (some [1, 2, 7, 8, 9]) [] none [] [qC 15 9,qC 16 1,qA 17 lenSl 16,qB 18 (binA prog .lss 3) 15 17,qC 19 18,⟨some 20, some (19, true), .v fun s => some (s.get 9)⟩,⟨some 21, some (19, true), .v fun s => some (s.get 2)⟩,⟨some 22, some (19, true), .v fun s => binA prog .lss 3 (s.get 20) (s.get 21)⟩,qF 23 fun s => pickA (s.get 19) (s.get 22) (.bool false)] K s := (den_reg hf _ K s).trans (by kernel_rfl)
theorem i0_eq : den prog ann 35 (.code i0 :: K) s = ifV prog ann 35 23 i0t i0e K s (s.get 23) := den_if hf (by kernel_rfl) K s
theorem i0t_eq : den prog ann 35 (.code i0t :: K) s = den prog ann 35 (K) s := den_flat hf (l := []) (by kernel_rfl) K s
theorem i0e_eq : den prog ann 35 (.code i0e :: K) s = den prog ann 35 (.code (.exit 0) :: K) s := den_flat hf (l := [(.exit 0)]) (by kernel_rfl) K s
theorem k1_eq : den prog ann 35 (.code k1 :: K) s = den prog ann 35 (.code r5 :: .inBlock 1 :: K) s := den_blk hf (b := blkOf k1) (l := [r5]) (by kernel_rfl) (by kernel_rfl) K s
theorem r5_draw : drawOk (fun g => (ann g).pure) (modeOf (ann 35) (idOf r5)) (frzOf (ann 35) (idOf r5)) (opsOf r5) = true := drawOk_of (an := [0, 0, 0, 6, 14, 30, 0, 126, 0, 0, 768, 1792, 3840, 0, 16128, 32512, 65534, 131071, 262143]) (by kernel_rfl) (by kernel_rfl)
theorem r5_eq : den prog ann 35 (.code r5 :: K) s = mreg prog ann 35 none [] (some 19) [] [qC 26 7,qC 27 1,qC 28 9,qB 29 (idxSl 1) 27 28,qA 30 (loadF false 1) 29,qA 31 (convInt .i64) 30,qC 32 8,qB 33 (binA prog .rem 3) 31 32,qC 34 1,qC 35 9,qB 36 (idxSl 1) 34 35,qA 37 (loadF false 1) 36,qA 38 (convInt .i64) 37,qC 39 8,qB 40 (binA prog .rem 3) 38 39,qF 41 fun s => binA prog .add 3 (s.get 40) (.int .i64 1),qF 42 fun s => sliceStr (.str [97, 98, 99]) (some (s.get 33)) (some (s.get 41)),qB 43 (binA prog .add 9) 26 42,qC 7 43] K s := (den_regD hf r5_draw K s).trans (by kernel_rfl)
theorem r4_eq : den prog ann 35 (.code r4 :: K) s = mreg prog ann 35 (some [1, 2, 7, 8, 9]) [] none [] [qC 24 9,qF 25 fun s => binA prog .add 3 (s.get 24) (.int .i64 1),qC 9 25] K s := (den_reg hf _ K s).trans (by kernel_rfl)
theorem r6_eq : den prog ann 35 (.code r6 :: K) s = mreg prog ann 35 (some [7]) [] none [] [qC 44 7,qC 6 44] K s := (den_reg hf _ K s).trans (by kernel_rfl)
theorem ret_eq : den prog ann 35 (.code .ret :: K) s = finM true [fun s => some (s.get 6)] s := (den_ret hf K s).trans (by kernel_rfl)
theorem nil_eq (s : St) : den prog ann 35 [] s = finM true [fun s => some (s.get 6)] s := (den_nil hf s).trans (by kernel_rfl)
theorem inBlock_eq (id : Nat) (K : List Item) (s : St) : den prog ann 35 (.inBlock id :: K) s = den prog ann 35 K s := den_inBlock hf id K s
theorem exit_eq (id : Nat) (K : List Item) (s : St) : den prog ann 35 (.code (.exit id) :: K) s = exitV prog ann 35 (exitTo id K) s := den_exitV hf id K s
theorem call_eq (v0 v1 v2 : AV) (m : Mem) (h : closedL [v0, v1, v2] = true) : denC prog ann 35 [v0, v1, v2] m = (den prog ann 35 [.code b] ⟨[(0, v0), (1, v1), (2, v2)], 45, Mem.empty⟩).bind fun r => some (r.1, m) := (denC_pure hf (b := b) (by kernel_rfl) (by kernel_rfl) (by kernel_rfl) h m).trans (by kernel_rfl)
theorem pure_eq : (ann 35).pure = true := by kernel_rfl
attribute [simp] b_eq r0_eq r1_eq r2_eq k0_eq l0_eq r3_eq i0_eq i0t_eq i0e_eq k1_eq r5_eq r4_eq r6_eq ret_eq nil_eq inBlock_eq exit_eq pure_eq
end
end l07_word
end Go.Proofs.Ythnpflkpjimkfaa

/-
  BODIES OF FUNCTIONS OF THE PROGRAM AS SMALL OPERATIONS (written by gen.py; checked by the kernel against the program). Conditions: none.
-/
namespace Go.Proofs.Ythnpflkpjimkfaa
open Go.AM
open Go.Proofs.Try (prog)
set_option maxRecDepth 100000
set_option linter.all false
end Go.Proofs.Ythnpflkpjimkfaa

/-
  WORDS OUT OF NUMBERS; THE ORDER OF WORDS: what the laws' functions return. Conditions: none.
-/
namespace Go.Proofs.Ythnpflkpjimkfaa
open Go.AM
open Go.Proofs.Try (prog)
set_option linter.all false
set_option maxRecDepth 100000
set_option maxHeartbeats 8000000
def wdL (k : Nat) (l : List Nat) : List UInt8 := l.map fun b => UInt8.ofNat (97 + b % k)
theorem wdL_ok {k : Nat} (k1 : 1 ≤ k) (k3 : k ≤ 3) (l : List Nat) : okW k (wdL k l) := fun c hc => by
  obtain ⟨b, _, rfl⟩ := List.mem_map.1 hc
  have := Nat.mod_lt b (show 0 < k by omega)
  rw [ofNat6 (by omega)]
  omega
theorem abc_at {r : Nat} (h : r < 3) : sliceStr (.str [97, 98, 99]) (some (.int .i64 (r : Nat))) (some (.int .i64 ((r : Int) + 1))) = some (.str (ltr r)) := by
  rcases (by omega : r = 0 ∨ r = 1 ∨ r = 2) with rfl | rfl | rfl
  · simp [sliceStr, bnds, bnd, ltr]; done
  · simp [sliceStr, bnds, bnd, ltr]; done
  · simp [sliceStr, bnds, bnd, ltr]; done
theorem word_loop35 {lv nv gv : AV} {l : List Nat} (hb : IsBy lv l) (hlb : ∀ x ∈ l, x < 256) {most k : Nat} (k1 : 1 ≤ k) (k3 : k ≤ 3) (hm : most ≤ 1000) : ∀ (c i : Nat) (m : Mem), i + c = min l.length most →
    l07_word.L0 lv (.int .i64 most) (.str (wdL k (l.take i))) (.int .i64 k) (.int .i64 i) m [.code l07_word.r6, .code .ret] = some (.str (wdL k (l.take most)), Mem.empty) := by
  intro c
  induction c with
  | zero =>
    intro i m h1
    have e : i = min l.length most := by omega
    have e2 : l.take i = l.take most := by
      rw [e]
      by_cases q : l.length ≤ most
      · rw [Nat.min_eq_left q, List.take_of_length_le (Nat.le_refl _), List.take_of_length_le q]
      · rw [Nat.min_eq_right (by omega)]
    rw [e2, l07_word.L0_eq]
    by_cases q : i < l.length
    · have q2 : ¬ i < most := by omega
      simp [hb.len, q, q2]
      done
    · simp [hb.len, q]
      done
  | succ c ih =>
    intro i m h1
    have hi : i < l.length := by omega
    have hi2 : i < most := by omega
    have hwi : IntKind.wrap .i64 ((i : Int) + 1) = (i : Int) + 1 := wrap_id (by omega) (by omega)
    have hx := List.getElem_mem hi
    have hlt := hlb _ hx
    have hd : ((bytN l).drop i).head? = some (.int .u8 (l[i] : Nat)) := by rw [List.head?_drop]; simp [bytN, hi]
    have ht : wdL k (l.take i) ++ ltr (l[i] % k) = wdL k (l.take (i + 1)) := by rw [List.take_add_one, List.getElem?_eq_getElem hi, wdL, wdL, List.map_append]; rfl
    have hlen : (wdL k (l.take i)).length = i := by simp [wdL, List.length_take]; omega
    have hll : (ltr (l[i] % k)).length = 1 := rfl
    generalize l[i] = b at *
    have hw : IntKind.wrap .i64 ((b : Nat) : Int) = (b : Nat) := wrap_id (by omega) (by omega)
    have hmod : ((b : Nat) : Int).tmod ((k : Nat) : Int) = ((b % k : Nat) : Int) := by rw [Int.tmod_eq_emod_of_nonneg (by omega)]; simp
    have hr := Nat.mod_lt b (show 0 < k by omega)
    have hab := abc_at (r := b % k) (by omega)
    have hk0 : ¬ k = 0 := by omega
    have hwr : IntKind.wrap .i64 (((b % k : Nat) : Int) + 1) = ((b % k : Nat) : Int) + 1 := wrap_id (by omega) (by omega)
    have st := fun m => ih (i + 1) m (by omega)
    rw [← ht] at st
    simp only [Int.natCast_add, Int.cast_ofNat_Int] at st
    generalize b % k = r at *
    rw [l07_word.L0_eq]
    simp [hb.len, hi, hi2, hb.idx hi, hd, hw, hmod, hk0, hwr, hab, hlen, hll, show i + 1 ≤ 4611686018427387904 by omega, hwi, st, -List.head?_drop, -Int.natCast_emod]
    done
theorem word35_spec {lv nv gv : AV} {l : List Nat} (hb : IsBy lv l) (hlb : ∀ x ∈ l, x < 256) {ps : List AV} {rows : List (List Int)} {good : List Bool} {k : Nat} (hn : IsRows nv ps rows) (hg : IsB gv good) (v : VB rows good k) {most : Nat} (hm : most ≤ 1000) (m : Mem) :
    denC prog ann 35 [.agg [nv, gv], lv, .int .i64 (most : Nat)] m = some (.str (wdL k (l.take most)), m) := by
  have k1 := v.k1
  have k3 := v.k3
  have lp := fun m => word_loop35 hb hlb (nv := nv) (gv := gv) k1 k3 hm (min l.length most) 0 m (by omega)
  simp only [Int.ofNat_zero, Int.cast_ofNat_Int] at lp
  have e0 : wdL k (l.take 0) = [] := by simp [wdL]
  rw [e0] at lp
  have i0 := hn.idx (i := 0) v.n1 .i64
  have j0 := hn.head (i := 0) v.n1
  have iw0 := hn.row 0 v.n1
  have hk := v.k0
  simp only [Int.ofNat_zero, Int.cast_ofNat_Int, List.drop_zero] at i0 j0
  rw [l07_word.call_eq _ _ _ _ (by simp [hn.closed, hg.closed, hb.closed])]
  simp [hn.one, hg.one, hn.closed, hg.closed, i0, j0, iw0.len, hk, lp]
  done
end Go.Proofs.Ythnpflkpjimkfaa

/-
  BrandAccepts: the law answers true. Conditions: none.
-/
namespace Go.Proofs.Ythnpflkpjimkfaa
open Go.AM
open Go.Proofs.Try (prog)
set_option linter.all false
set_option maxRecDepth 100000
set_option maxHeartbeats 8000000
theorem IsRows.cells {v : AV} {ps : List AV} {rows : List (List Int)} (h : IsRows v ps rows) : v.cells = [v] := by rcases h.val with ⟨rfl, _⟩ | ⟨_, rfl⟩ <;> rfl
end Go.Proofs.Ythnpflkpjimkfaa

/-
  BrandMonoids: the law answers true. Conditions: none.
-/
namespace Go.Proofs.Ythnpflkpjimkfaa
open Go.AM
open Go.Proofs.Try (prog)
set_option linter.all false
set_option maxRecDepth 100000
set_option maxHeartbeats 8000000
end Go.Proofs.Ythnpflkpjimkfaa

/-
  BODIES OF FUNCTIONS OF THE PROGRAM AS SMALL OPERATIONS (written by gen.py; checked by the kernel against the program). Conditions: none.
-/
namespace Go.Proofs.Ythnpflkpjimkfaa
open Go.AM
open Go.Proofs.Try (prog)
set_option maxRecDepth 100000
set_option linter.all false
end Go.Proofs.Ythnpflkpjimkfaa

/-
  THE LEAST WORD THAT LEADS ALL STATES TO ONE: the program's search. Conditions: none.
-/
namespace Go.Proofs.Ythnpflkpjimkfaa
open Go.AM
open Go.Proofs.Try (prog)
set_option linter.all false
set_option maxRecDepth 100000
set_option maxHeartbeats 8000000
end Go.Proofs.Ythnpflkpjimkfaa

/-
  THE LEAST WORD THAT LEADS ALL STATES TO ONE: the specification's search. Conditions: none.
-/
namespace Go.Proofs.Ythnpflkpjimkfaa
open Go.AM
open Go.Proofs.Try (prog)
set_option linter.all false
set_option maxRecDepth 100000
set_option maxHeartbeats 8000000
structure Rs (m : Mem) (x6 x7 : AV) (i6 i7 i8 : Nat) (S : List Nat × List (List UInt8)) : Prop where
  p : Gl m x6 i6 1 S.1.length (S.1.map encS)
  w : Gl m x7 i7 1 S.2.length (S.2.map .str)
  k : Mp m i8 (S.1.map encS) ((S.1.map fun _ => true).map .bool)
  d1 : i6 ≠ i7
  d2 : i6 ≠ i8
  d3 : i7 ≠ i8
end Go.Proofs.Ythnpflkpjimkfaa
