/-
  BODIES OF FUNCTIONS OF THE PROGRAM AS SMALL OPERATIONS (written by gen.py; checked by the kernel against the program). Conditions: none.
-/
import Derived.Test.YthnpflkpjimkfaaKAmH
set_option linter.all false
namespace Go.Proofs.Ythnpflkpjimkfaa
open Go.AM
open Go.Proofs.Try (prog)
set_option maxRecDepth 100000
set_option linter.all false
namespace r07_Smallest
noncomputable section
variable (K : List Item) (s : St)
def b : Code := (Try.f29.body).getD .skip
theorem hf : prog.funcs[29]? = some Try.f29 := by kernel_rfl
def r0 := findReg b 0
def r1 := findReg b 1
def r2 := findReg b 2
def r3 := findReg b 3
def r4 := findReg b 4
def k0 := findBlk b 0
def l0 := loopOf k0
def L0 (x1 x2 x3 x5 x6 x7 x8 : AV) (m : Mem) (K : List Item) : Option Res := den prog ann 29 (.code l0 :: .inLoop l0 :: .inBlock 0 :: K) ⟨[(1, x1), (2, x2), (3, x3), (5, x5), (6, x6), (7, x7), (8, x8)], 141, m⟩
def r5 := findReg b 5
def i0 := findCond b 0
def i0t := thenOf i0
def i0e := elseOf i0
def k1 := findBlk b 1
def r7 := findReg b 7
def r8 := findReg b 8
def k2 := findBlk b 2
def l2 := loopOf k2
def L2 (x1 x2 x3 x5 x6 x7 x8 x9 : AV) (m : Mem) (K : List Item) : Option Res := den prog ann 29 (.code l2 :: .inLoop l2 :: .inBlock 2 :: K) ⟨[(1, x1), (2, x2), (3, x3), (5, x5), (6, x6), (7, x7), (8, x8), (9, x9)], 141, m⟩
def r9 := findReg b 9
def i1 := findCond b 1
def i1t := thenOf i1
def i1e := elseOf i1
def k3 := findBlk b 3
def r11 := findReg b 11
def i2 := findCond b 2
def i2t := thenOf i2
def i2e := elseOf i2
def r12 := findReg b 12
def r10 := findReg b 10
def r13 := findReg b 13
def i3 := findCond b 3
def i3t := thenOf i3
def i3e := elseOf i3
def r14 := findReg b 14
def r15 := findReg b 15
def r6 := findReg b 6
def r16 := findReg b 16
def r17 := findReg b 17
def k4 := findBlk b 4
def l4 := loopOf k4
def L4 (x1 x2 x6 x7 x10 x11 : AV) (m : Mem) (K : List Item) : Option Res := den prog ann 29 (.code l4 :: .inLoop l4 :: .inBlock 4 :: K) ⟨[(1, x1), (2, x2), (6, x6), (7, x7), (10, x10), (11, x11)], 141, m⟩
def r18 := findReg b 18
def i4 := findCond b 4
def i4t := thenOf i4
def i4e := elseOf i4
def k5 := findBlk b 5
def r20 := findReg b 20
def r21 := findReg b 21
def k6 := findBlk b 6
def l6 := loopOf k6
def L6 (x1 x2 x6 x7 x10 x11 x12 x13 : AV) (m : Mem) (K : List Item) : Option Res := den prog ann 29 (.code l6 :: .inLoop l6 :: .inBlock 6 :: K) ⟨[(1, x1), (2, x2), (6, x6), (7, x7), (10, x10), (11, x11), (12, x12), (13, x13)], 141, m⟩
def r22 := findReg b 22
def i5 := findCond b 5
def i5t := thenOf i5
def i5e := elseOf i5
def k7 := findBlk b 7
def r24 := findReg b 24
def r23 := findReg b 23
def r25 := findReg b 25
def r19 := findReg b 19
def r26 := findReg b 26
theorem b_eq : den prog ann 29 (.code b :: K) s = den prog ann 29 (.code r0 :: .code r1 :: .code r2 :: .code r3 :: .code r4 :: .code k0 :: .code r16 :: .code r17 :: .code k4 :: .code r26 :: .code .ret :: K) s := den_flat hf (l := [r0, r1, r2, r3, r4, k0, r16, r17, k4, r26, .ret]) (by kernel_rfl) K s
theorem r0_eq : den prog ann 29 (.code r0 :: K) s = mreg prog ann 29 none [] none [] [qA 1 frozenPtr 0,⟨some 2, none, .w false none fun s => newPtr s.m [.nils, .nils]⟩] K s := (den_reg hf _ K s).trans (by kernel_rfl)
theorem r1_eq : den prog ann 29 (.code r1 :: K) s = mreg prog ann 29 none [] none [] [qA 15 (loadF true 2) 1,⟨some 16, none, .c 0 (fun s => (.fn 66 [] [])) fun s => [(s.get 15)]⟩,qC 14 16,qF 17 fun s => extA (s.get 14) 0,qF 18 fun s => extA (s.get 14) 1,qC 3 17,qC 4 18] K s := (den_reg hf _ K s).trans (by kernel_rfl)
theorem r2_eq : den prog ann 29 (.code r2 :: K) s = mreg prog ann 29 none [] none [] [qA 19 (loadF true 2) 1,⟨some 20, none, .c 0 (fun s => (.fn 67 [] [])) fun s => [(s.get 19)]⟩,qC 5 20] K s := (den_reg hf _ K s).trans (by kernel_rfl)
theorem r3_eq : den prog ann 29 (.code r3 :: K) s = mreg prog ann 29 none [] none [] [qA 21 (fieldA 0) 1,qA 22 (loadF false 1) 21,qA 23 lenSl 22,⟨some 24, none, .w false none fun s => makeA 1 8 (.int .i64 0) s.m (s.get 23) (s.get 23)⟩,⟨some 25, none, .w false none fun s => bslM s.m 0 (bslA 1 0 [.int .i64 0] [])⟩,qC 6 24,qC 7 25] K s := (den_reg hf _ K s).trans (by kernel_rfl)
theorem r4_eq : den prog ann 29 (.code r4 :: K) s = mreg prog ann 29 none [] none [] [qF 8 fun s => some (.int .i64 0)] K s := (den_reg hf _ K s).trans (by kernel_rfl)
theorem k0_eq (K : List Item) (t : List (Nat × AV)) (m : Mem) : den prog ann 29 (.code k0 :: K) ⟨t, 141, m⟩ = L0 (get t 1) (get t 2) (get t 3) (get t 5) (get t 6) (get t 7) (get t 8) m K := den_loop_enter hf (b := l0) (id := 5) (l := [1, 2, 3, 5, 6, 7, 8]) (by kernel_rfl) (by kernel_rfl) (by kernel_rfl) K _
theorem l0_eq (K : List Item) (t : List (Nat × AV)) (m : Mem) : den prog ann 29 (.inLoop l0 :: .inBlock 0 :: K) ⟨t, 141, m⟩ = L0 (get t 1) (get t 2) (get t 3) (get t 5) (get t 6) (get t 7) (get t 8) m K := den_loop_again hf (id := 5) (l := [1, 2, 3, 5, 6, 7, 8]) (by kernel_rfl) (by kernel_rfl) (.inBlock 0 :: K) _
theorem L0_eq (x1 x2 x3 x5 x6 x7 x8 : AV) (m : Mem) (K : List Item) : L0 x1 x2 x3 x5 x6 x7 x8 m K = den prog ann 29 (.code r5 :: .code i0 :: .code k1 :: .code r6 :: .inLoop l0 :: .inBlock 0 :: K) ⟨[(1, x1), (2, x2), (3, x3), (5, x5), (6, x6), (7, x7), (8, x8)], 141, m⟩ := den_flat hf (l := [r5, i0, k1, r6]) (by kernel_rfl) _ _
theorem r5_eq : den prog ann 29 (.code r5 :: K) s = mreg prog ann 29 (some [1, 2, 3, 5, 6, 7, 8]) [] none [] [qC 26 8,qC 27 3,qA 28 lenSl 27,qB 29 (binA prog .lss 3) 26 28] K s := (den_reg hf _ K s).trans (by kernel_rfl)
theorem i0_eq : den prog ann 29 (.code i0 :: K) s = ifV prog ann 29 29 i0t i0e K s (s.get 29) := den_if hf (by kernel_rfl) K s
theorem i0t_eq : den prog ann 29 (.code i0t :: K) s = den prog ann 29 (K) s := den_flat hf (l := []) (by kernel_rfl) K s
theorem i0e_eq : den prog ann 29 (.code i0e :: K) s = den prog ann 29 (.code (.exit 0) :: K) s := den_flat hf (l := [(.exit 0)]) (by kernel_rfl) K s
theorem k1_eq : den prog ann 29 (.code k1 :: K) s = den prog ann 29 (.code r7 :: .code r8 :: .code k2 :: .code r13 :: .code i3 :: .inBlock 1 :: K) s := den_blk hf (b := blkOf k1) (l := [r7, r8, k2, r13, i3]) (by kernel_rfl) (by kernel_rfl) K s
theorem r7_eq : den prog ann 29 (.code r7 :: K) s = mreg prog ann 29 none [] none [] [qC 32 6,qC 33 3,qC 34 8,qB 35 (idxSl 1) 33 34,qA 36 (loadF false 1) 35,qB 37 (idxSl 1) 32 36,⟨none, none, .w false none fun s => stA false 1 s.m (s.get 37) (.int .i64 (-1))⟩] K s := (den_reg hf _ K s).trans (by kernel_rfl)
theorem r8_eq : den prog ann 29 (.code r8 :: K) s = mreg prog ann 29 none [] none [] [qF 9 fun s => some (.int .i64 0)] K s := (den_reg hf _ K s).trans (by kernel_rfl)
theorem k2_eq (K : List Item) (t : List (Nat × AV)) (m : Mem) : den prog ann 29 (.code k2 :: K) ⟨t, 141, m⟩ = L2 (get t 1) (get t 2) (get t 3) (get t 5) (get t 6) (get t 7) (get t 8) (get t 9) m K := den_loop_enter hf (b := l2) (id := 9) (l := [1, 2, 3, 5, 6, 7, 8, 9]) (by kernel_rfl) (by kernel_rfl) (by kernel_rfl) K _
theorem l2_eq (K : List Item) (t : List (Nat × AV)) (m : Mem) : den prog ann 29 (.inLoop l2 :: .inBlock 2 :: K) ⟨t, 141, m⟩ = L2 (get t 1) (get t 2) (get t 3) (get t 5) (get t 6) (get t 7) (get t 8) (get t 9) m K := den_loop_again hf (id := 9) (l := [1, 2, 3, 5, 6, 7, 8, 9]) (by kernel_rfl) (by kernel_rfl) (.inBlock 2 :: K) _
theorem L2_eq (x1 x2 x3 x5 x6 x7 x8 x9 : AV) (m : Mem) (K : List Item) : L2 x1 x2 x3 x5 x6 x7 x8 x9 m K = den prog ann 29 (.code r9 :: .code i1 :: .code k3 :: .code r10 :: .inLoop l2 :: .inBlock 2 :: K) ⟨[(1, x1), (2, x2), (3, x3), (5, x5), (6, x6), (7, x7), (8, x8), (9, x9)], 141, m⟩ := den_flat hf (l := [r9, i1, k3, r10]) (by kernel_rfl) _ _
theorem r9_eq : den prog ann 29 (.code r9 :: K) s = mreg prog ann 29 (some [1, 2, 3, 5, 6, 7, 8, 9]) [] none [] [qC 38 9,qC 39 7,qA 40 lenSl 39,qB 41 (binA prog .lss 3) 38 40] K s := (den_reg hf _ K s).trans (by kernel_rfl)
theorem i1_eq : den prog ann 29 (.code i1 :: K) s = ifV prog ann 29 41 i1t i1e K s (s.get 41) := den_if hf (by kernel_rfl) K s
theorem i1t_eq : den prog ann 29 (.code i1t :: K) s = den prog ann 29 (K) s := den_flat hf (l := []) (by kernel_rfl) K s
theorem i1e_eq : den prog ann 29 (.code i1e :: K) s = den prog ann 29 (.code (.exit 2) :: K) s := den_flat hf (l := [(.exit 2)]) (by kernel_rfl) K s
theorem k3_eq : den prog ann 29 (.code k3 :: K) s = den prog ann 29 (.code r11 :: .code i2 :: .inBlock 3 :: K) s := den_blk hf (b := blkOf k3) (l := [r11, i2]) (by kernel_rfl) (by kernel_rfl) K s
theorem r11_draw : drawOk (fun g => (ann g).pure) (modeOf (ann 29) (idOf r11)) (frzOf (ann 29) (idOf r11)) (opsOf r11) = true := drawOk_of (an := [0, 0, 0, 6, 14, 31, 63, 0, 0, 384, 896, 2047, 4095]) (by kernel_rfl) (by kernel_rfl)
theorem r11_eq : den prog ann 29 (.code r11 :: K) s = mreg prog ann 29 none [] (some 13) [] [qC 44 5,qC 45 3,qC 46 8,qB 47 (idxSl 1) 45 46,qA 48 (loadF false 1) 47,qB 49 (idxSl 1) 44 48,qA 50 (loadF false 1) 49,qC 51 7,qC 52 9,qB 53 (idxSl 1) 51 52,qF 54 fun s => loadA false 1 s.m (s.get 53),qB 55 (idxSl 1) 50 54,qA 56 (loadF false 1) 55] K s := (den_regD hf r11_draw K s).trans (by kernel_rfl)
theorem i2_eq : den prog ann 29 (.code i2 :: K) s = ifV prog ann 29 56 i2t i2e K s (s.get 56) := den_if hf (by kernel_rfl) K s
theorem i2t_eq : den prog ann 29 (.code i2t :: K) s = den prog ann 29 (.code r12 :: K) s := den_flat hf (l := [r12]) (by kernel_rfl) K s
theorem r12_eq : den prog ann 29 (.code r12 :: K) s = mreg prog ann 29 none [] none [] [qC 57 6,qC 58 3,qC 59 8,qB 60 (idxSl 1) 58 59,qA 61 (loadF false 1) 60,qC 62 9,qB 63 (idxSl 1) 57 61,⟨none, none, .w false none fun s => stA false 1 s.m (s.get 63) (s.get 62)⟩] K s := (den_reg hf _ K s).trans (by kernel_rfl)
theorem i2e_eq : den prog ann 29 (.code i2e :: K) s = den prog ann 29 (K) s := den_flat hf (l := []) (by kernel_rfl) K s
theorem r10_eq : den prog ann 29 (.code r10 :: K) s = mreg prog ann 29 (some [1, 2, 3, 5, 6, 7, 8, 9]) [] none [] [qC 42 9,qF 43 fun s => binA prog .add 3 (s.get 42) (.int .i64 1),qC 9 43] K s := (den_reg hf _ K s).trans (by kernel_rfl)
theorem r13_eq : den prog ann 29 (.code r13 :: K) s = mreg prog ann 29 (some [1, 2, 3, 5, 6, 7, 8]) [] none [] [qC 64 6,qC 65 3,qC 66 8,qB 67 (idxSl 1) 65 66,qA 68 (loadF false 1) 67,qB 69 (idxSl 1) 64 68,qF 70 fun s => loadA false 1 s.m (s.get 69),qF 71 fun s => binA prog .lss 3 (s.get 70) (.int .i64 0)] K s := (den_reg hf _ K s).trans (by kernel_rfl)
theorem i3_eq : den prog ann 29 (.code i3 :: K) s = ifV prog ann 29 71 i3t i3e K s (s.get 71) := den_if hf (by kernel_rfl) K s
theorem i3t_eq : den prog ann 29 (.code i3t :: K) s = den prog ann 29 (.code r14 :: .code r15 :: K) s := den_flat hf (l := [r14, r15]) (by kernel_rfl) K s
theorem r14_eq : den prog ann 29 (.code r14 :: K) s = mreg prog ann 29 none [] none [] [qC 72 6,qC 73 3,qC 74 8,qB 75 (idxSl 1) 73 74,qA 76 (loadF false 1) 75,qC 77 7,qA 78 lenSl 77,qB 79 (idxSl 1) 72 76,⟨none, none, .w false none fun s => stA false 1 s.m (s.get 79) (s.get 78)⟩] K s := (den_reg hf _ K s).trans (by kernel_rfl)
theorem r15_eq : den prog ann 29 (.code r15 :: K) s = mreg prog ann 29 none [] none [] [qC 80 7,qC 81 3,qC 82 8,qB 83 (idxSl 1) 81 82,qA 84 (loadF false 1) 83,qF 85 fun s => bslF 1 (bslA 1 1 [.int .i64 0] [(0, (s.get 84))]),⟨some 86, none, .w false none fun s => appendA 1 8 s.m (s.get 80) (s.get 85)⟩,qC 7 86] K s := (den_reg hf _ K s).trans (by kernel_rfl)
theorem i3e_eq : den prog ann 29 (.code i3e :: K) s = den prog ann 29 (K) s := den_flat hf (l := []) (by kernel_rfl) K s
theorem r6_eq : den prog ann 29 (.code r6 :: K) s = mreg prog ann 29 (some [1, 2, 3, 5, 6, 7, 8]) [] none [] [qC 30 8,qF 31 fun s => binA prog .add 3 (s.get 30) (.int .i64 1),qC 8 31] K s := (den_reg hf _ K s).trans (by kernel_rfl)
theorem r16_eq : den prog ann 29 (.code r16 :: K) s = mreg prog ann 29 (some [1, 2, 6, 7]) [] none [] [qF 87 fun s => bldA (plc [(0, 1), (1, 1)]) [.nils, .nils] [],⟨some 10, none, .w false none fun s => newPtr s.m [.nils, .nils]⟩,⟨none, none, .w false none fun s => stA true 2 s.m (s.get 10) (s.get 87)⟩] K s := (den_reg hf _ K s).trans (by kernel_rfl)
theorem r17_eq : den prog ann 29 (.code r17 :: K) s = mreg prog ann 29 none [] none [] [qF 11 fun s => some (.int .i64 0)] K s := (den_reg hf _ K s).trans (by kernel_rfl)
theorem k4_eq (K : List Item) (t : List (Nat × AV)) (m : Mem) : den prog ann 29 (.code k4 :: K) ⟨t, 141, m⟩ = L4 (get t 1) (get t 2) (get t 6) (get t 7) (get t 10) (get t 11) m K := den_loop_enter hf (b := l4) (id := 18) (l := [1, 2, 6, 7, 10, 11]) (by kernel_rfl) (by kernel_rfl) (by kernel_rfl) K _
theorem l4_eq (K : List Item) (t : List (Nat × AV)) (m : Mem) : den prog ann 29 (.inLoop l4 :: .inBlock 4 :: K) ⟨t, 141, m⟩ = L4 (get t 1) (get t 2) (get t 6) (get t 7) (get t 10) (get t 11) m K := den_loop_again hf (id := 18) (l := [1, 2, 6, 7, 10, 11]) (by kernel_rfl) (by kernel_rfl) (.inBlock 4 :: K) _
theorem L4_eq (x1 x2 x6 x7 x10 x11 : AV) (m : Mem) (K : List Item) : L4 x1 x2 x6 x7 x10 x11 m K = den prog ann 29 (.code r18 :: .code i4 :: .code k5 :: .code r19 :: .inLoop l4 :: .inBlock 4 :: K) ⟨[(1, x1), (2, x2), (6, x6), (7, x7), (10, x10), (11, x11)], 141, m⟩ := den_flat hf (l := [r18, i4, k5, r19]) (by kernel_rfl) _ _
theorem r18_eq : den prog ann 29 (.code r18 :: K) s = mreg prog ann 29 (some [1, 2, 6, 7, 10, 11]) [] none [] [qC 88 11,qC 89 7,qA 90 lenSl 89,qB 91 (binA prog .lss 3) 88 90] K s := (den_reg hf _ K s).trans (by kernel_rfl)
theorem i4_eq : den prog ann 29 (.code i4 :: K) s = ifV prog ann 29 91 i4t i4e K s (s.get 91) := den_if hf (by kernel_rfl) K s
theorem i4t_eq : den prog ann 29 (.code i4t :: K) s = den prog ann 29 (K) s := den_flat hf (l := []) (by kernel_rfl) K s
theorem i4e_eq : den prog ann 29 (.code i4e :: K) s = den prog ann 29 (.code (.exit 4) :: K) s := den_flat hf (l := [(.exit 4)]) (by kernel_rfl) K s
theorem k5_eq : den prog ann 29 (.code k5 :: K) s = den prog ann 29 (.code r20 :: .code r21 :: .code k6 :: .code r25 :: .inBlock 5 :: K) s := den_blk hf (b := blkOf k5) (l := [r20, r21, k6, r25]) (by kernel_rfl) (by kernel_rfl) K s
theorem r20_eq : den prog ann 29 (.code r20 :: K) s = mreg prog ann 29 none [] none [] [⟨some 94, none, .w false none fun s => bslM s.m 0 (bslA 1 0 [.int .i64 0] [])⟩,qC 12 94] K s := (den_reg hf _ K s).trans (by kernel_rfl)
theorem r21_eq : den prog ann 29 (.code r21 :: K) s = mreg prog ann 29 none [] none [] [qF 13 fun s => some (.int .i64 0)] K s := (den_reg hf _ K s).trans (by kernel_rfl)
theorem k6_eq (K : List Item) (t : List (Nat × AV)) (m : Mem) : den prog ann 29 (.code k6 :: K) ⟨t, 141, m⟩ = L6 (get t 1) (get t 2) (get t 6) (get t 7) (get t 10) (get t 11) (get t 12) (get t 13) m K := den_loop_enter hf (b := l6) (id := 22) (l := [1, 2, 6, 7, 10, 11, 12, 13]) (by kernel_rfl) (by kernel_rfl) (by kernel_rfl) K _
theorem l6_eq (K : List Item) (t : List (Nat × AV)) (m : Mem) : den prog ann 29 (.inLoop l6 :: .inBlock 6 :: K) ⟨t, 141, m⟩ = L6 (get t 1) (get t 2) (get t 6) (get t 7) (get t 10) (get t 11) (get t 12) (get t 13) m K := den_loop_again hf (id := 22) (l := [1, 2, 6, 7, 10, 11, 12, 13]) (by kernel_rfl) (by kernel_rfl) (.inBlock 6 :: K) _
theorem L6_eq (x1 x2 x6 x7 x10 x11 x12 x13 : AV) (m : Mem) (K : List Item) : L6 x1 x2 x6 x7 x10 x11 x12 x13 m K = den prog ann 29 (.code r22 :: .code i5 :: .code k7 :: .code r23 :: .inLoop l6 :: .inBlock 6 :: K) ⟨[(1, x1), (2, x2), (6, x6), (7, x7), (10, x10), (11, x11), (12, x12), (13, x13)], 141, m⟩ := den_flat hf (l := [r22, i5, k7, r23]) (by kernel_rfl) _ _
theorem r22_eq : den prog ann 29 (.code r22 :: K) s = mreg prog ann 29 (some [1, 2, 6, 7, 10, 11, 12, 13]) [] none [] [qC 95 13,qA 96 (fieldA 0) 1,qA 97 (loadF false 1) 96,qF 98 fun s => idxSl 1 (s.get 97) (.int .i64 0),qA 99 (loadF false 1) 98,qA 100 lenSl 99,qB 101 (binA prog .lss 3) 95 100] K s := (den_reg hf _ K s).trans (by kernel_rfl)
theorem i5_eq : den prog ann 29 (.code i5 :: K) s = ifV prog ann 29 101 i5t i5e K s (s.get 101) := den_if hf (by kernel_rfl) K s
theorem i5t_eq : den prog ann 29 (.code i5t :: K) s = den prog ann 29 (K) s := den_flat hf (l := []) (by kernel_rfl) K s
theorem i5e_eq : den prog ann 29 (.code i5e :: K) s = den prog ann 29 (.code (.exit 6) :: K) s := den_flat hf (l := [(.exit 6)]) (by kernel_rfl) K s
theorem k7_eq : den prog ann 29 (.code k7 :: K) s = den prog ann 29 (.code r24 :: .inBlock 7 :: K) s := den_blk hf (b := blkOf k7) (l := [r24]) (by kernel_rfl) (by kernel_rfl) K s
theorem r24_draw : drawOk (fun g => (ann g).pure) (modeOf (ann 29) (idOf r24)) (frzOf (ann 29) (idOf r24)) (opsOf r24) = true := drawOk_of (an := [0, 0, 0, 4, 0, 0, 48, 112, 252, 508, 0, 2044, 4092, 8190, 16382, 32766, 65535, 131071]) (by kernel_rfl) (by kernel_rfl)
theorem r24_eq : den prog ann 29 (.code r24 :: K) s = mreg prog ann 29 none [] (some 18) [] [qC 104 12,qC 105 6,qA 106 (fieldA 0) 1,qA 107 (loadF false 1) 106,qC 108 7,qC 109 11,qB 110 (idxSl 1) 108 109,qF 111 fun s => loadA false 1 s.m (s.get 110),qB 112 (idxSl 1) 107 111,qA 113 (loadF false 1) 112,qC 114 13,qB 115 (idxSl 1) 113 114,qA 116 (loadF false 1) 115,qB 117 (idxSl 1) 105 116,qF 118 fun s => loadA false 1 s.m (s.get 117),qF 119 fun s => bslF 1 (bslA 1 1 [.int .i64 0] [(0, (s.get 118))]),⟨some 120, none, .w false (some 16) fun s => appendA 1 8 s.m (s.get 104) (s.get 119)⟩,qC 12 120] K s := (den_regD hf r24_draw K s).trans (by kernel_rfl)
theorem r23_eq : den prog ann 29 (.code r23 :: K) s = mreg prog ann 29 (some [1, 2, 6, 7, 10, 11, 12, 13]) [] none [] [qC 102 13,qF 103 fun s => binA prog .add 3 (s.get 102) (.int .i64 1),qC 13 103] K s := (den_reg hf _ K s).trans (by kernel_rfl)
theorem r25_draw : drawOk (fun g => (ann g).pure) (modeOf (ann 29) (idOf r25)) (frzOf (ann 29) (idOf r25)) (opsOf r25) = true := drawOk_of (an := [0, 1, 0, 4, 15, 0, 32, 0, 128, 0, 0, 1536, 3584, 8064, 16256, 32640, 65535, 127, 262143, 524287, 1048575]) (by kernel_rfl) (by kernel_rfl)
theorem r25_eq : den prog ann 29 (.code r25 :: K) s = mreg prog ann 29 (some [1, 2, 6, 7, 10, 11, 12]) [12] (some 21) [3122126, 2000124, 3122132] [qA 121 (fieldA 0) 10,qF 122 fun s => loadA false 1 s.m (s.get 121),qC 123 12,qF 124 fun s => bslF 1 (bslA 1 1 [.nils] [(0, (s.get 123))]),⟨some 125, none, .w false (some 4) fun s => appendA 1 24 s.m (s.get 122) (s.get 124)⟩,qA 126 (fieldA 1) 10,qF 127 fun s => loadA false 1 s.m (s.get 126),qA 128 (fieldA 1) 1,qA 129 (loadF false 1) 128,qC 130 7,qC 131 11,qB 132 (idxSl 1) 130 131,qF 133 fun s => loadA false 1 s.m (s.get 132),qB 134 (idxSl 1) 129 133,qA 135 (loadF false 1) 134,qF 136 fun s => bslF 1 (bslA 1 1 [.bool false] [(0, (s.get 135))]),⟨some 137, none, .w false (some 16) fun s => appendA 1 1 s.m (s.get 127) (s.get 136)⟩,qA 138 (fieldA 0) 10,⟨none, none, .w false (some 18) fun s => stA false 1 s.m (s.get 138) (s.get 125)⟩,qA 139 (fieldA 1) 10,⟨none, none, .w false (some 20) fun s => stA false 1 s.m (s.get 139) (s.get 137)⟩] K s := (den_regD hf r25_draw K s).trans (by kernel_rfl)
theorem r19_eq : den prog ann 29 (.code r19 :: K) s = mreg prog ann 29 (some [1, 2, 6, 7, 10, 11]) [] none [] [qC 92 11,qF 93 fun s => binA prog .add 3 (s.get 92) (.int .i64 1),qC 11 93] K s := (den_reg hf _ K s).trans (by kernel_rfl)
theorem r26_eq : den prog ann 29 (.code r26 :: K) s = mreg prog ann 29 (some [2, 10]) [] none [] [qF 140 fun s => loadA true 2 s.m (s.get 10),⟨none, none, .w false none fun s => stA true 2 s.m (s.get 2) (s.get 140)⟩] K s := (den_reg hf _ K s).trans (by kernel_rfl)
theorem ret_eq : den prog ann 29 (.code .ret :: K) s = finM true [fun s => loadA true 2 s.m (s.get 2)] s := (den_ret hf K s).trans (by kernel_rfl)
theorem nil_eq (s : St) : den prog ann 29 [] s = finM true [fun s => loadA true 2 s.m (s.get 2)] s := (den_nil hf s).trans (by kernel_rfl)
theorem inBlock_eq (id : Nat) (K : List Item) (s : St) : den prog ann 29 (.inBlock id :: K) s = den prog ann 29 K s := den_inBlock hf id K s
theorem exit_eq (id : Nat) (K : List Item) (s : St) : den prog ann 29 (.code (.exit id) :: K) s = exitV prog ann 29 (exitTo id K) s := den_exitV hf id K s
theorem call_eq (v0 : AV) (m : Mem) (h : closedL [v0] = true) : denC prog ann 29 [v0] m = (den prog ann 29 [.code b] ⟨[(0, v0)], 141, Mem.empty⟩).bind fun r => some (r.1, m) := (denC_pure hf (b := b) (by kernel_rfl) (by kernel_rfl) (by kernel_rfl) h m).trans (by kernel_rfl)
theorem pure_eq : (ann 29).pure = true := by kernel_rfl
attribute [simp] b_eq r0_eq r1_eq r2_eq r3_eq r4_eq k0_eq l0_eq r5_eq i0_eq i0t_eq i0e_eq k1_eq r7_eq r8_eq k2_eq l2_eq r9_eq i1_eq i1t_eq i1e_eq k3_eq r11_eq i2_eq i2t_eq r12_eq i2e_eq r10_eq r13_eq i3_eq i3t_eq r14_eq r15_eq i3e_eq r6_eq r16_eq r17_eq k4_eq l4_eq r18_eq i4_eq i4t_eq i4e_eq k5_eq r20_eq r21_eq k6_eq l6_eq r22_eq i5_eq i5t_eq i5e_eq k7_eq r24_eq r23_eq r25_eq r19_eq r26_eq ret_eq nil_eq inBlock_eq exit_eq pure_eq
end
end r07_Smallest
namespace brand_smallest
noncomputable section
variable (K : List Item) (s : St)
def b : Code := (Try.f56.body).getD .skip
theorem hf : prog.funcs[56]? = some Try.f56 := by kernel_rfl
def r0 := findReg b 0
def r1 := findReg b 1
def r2 := findReg b 2
def r3 := findReg b 3
def k0 := findBlk b 0
def l0 := loopOf k0
def L0 (x1 x2 x3 x4 x23 x24 : AV) (m : Mem) (K : List Item) : Option Res := den prog ann 56 (.code l0 :: .inLoop l0 :: .inBlock 0 :: K) ⟨[(1, x1), (2, x2), (3, x3), (4, x4), (23, x23), (24, x24)], 161, m⟩
def r4 := findReg b 4
def i0 := findCond b 0
def i0t := thenOf i0
def i0e := elseOf i0
def k1 := findBlk b 1
def r5 := findReg b 5
def r6 := findReg b 6
def r7 := findReg b 7
def k2 := findBlk b 2
def l2 := loopOf k2
def L2 (x1 x2 x3 x4 x5 x23 x24 x32 x33 : AV) (m : Mem) (K : List Item) : Option Res := den prog ann 56 (.code l2 :: .inLoop l2 :: .inBlock 2 :: K) ⟨[(1, x1), (2, x2), (3, x3), (4, x4), (5, x5), (23, x23), (24, x24), (32, x32), (33, x33)], 161, m⟩
def r8 := findReg b 8
def i1 := findCond b 1
def i1t := thenOf i1
def i1e := elseOf i1
def k3 := findBlk b 3
def r9 := findReg b 9
def r10 := findReg b 10
def r11 := findReg b 11
def r12 := findReg b 12
def r13 := findReg b 13
def k4 := findBlk b 4
def l4 := loopOf k4
def L4 (x1 x2 x3 x4 x7 : AV) (m : Mem) (K : List Item) : Option Res := den prog ann 56 (.code l4 :: .inLoop l4 :: .inBlock 4 :: K) ⟨[(1, x1), (2, x2), (3, x3), (4, x4), (7, x7)], 161, m⟩
def r14 := findReg b 14
def i2 := findCond b 2
def i2t := thenOf i2
def i2e := elseOf i2
def k5 := findBlk b 5
def r15 := findReg b 15
def r16 := findReg b 16
def k6 := findBlk b 6
def l6 := loopOf k6
def L6 (x1 x2 x3 x4 x7 x56 x57 : AV) (m : Mem) (K : List Item) : Option Res := den prog ann 56 (.code l6 :: .inLoop l6 :: .inBlock 6 :: K) ⟨[(1, x1), (2, x2), (3, x3), (4, x4), (7, x7), (56, x56), (57, x57)], 161, m⟩
def r17 := findReg b 17
def i3 := findCond b 3
def i3t := thenOf i3
def i3e := elseOf i3
def k7 := findBlk b 7
def r18 := findReg b 18
def r19 := findReg b 19
def k8 := findBlk b 8
def l8 := loopOf k8
def L8 (x1 x2 x3 x4 x7 x8 x56 x57 x60 x61 : AV) (m : Mem) (K : List Item) : Option Res := den prog ann 56 (.code l8 :: .inLoop l8 :: .inBlock 8 :: K) ⟨[(1, x1), (2, x2), (3, x3), (4, x4), (7, x7), (8, x8), (56, x56), (57, x57), (60, x60), (61, x61)], 161, m⟩
def r20 := findReg b 20
def i4 := findCond b 4
def i4t := thenOf i4
def i4e := elseOf i4
def k9 := findBlk b 9
def r21 := findReg b 21
def r22 := findReg b 22
def k10 := findBlk b 10
def l10 := loopOf k10
def L10 (x1 x2 x3 x4 x7 x8 x9 x56 x57 x60 x61 x69 x70 : AV) (m : Mem) (K : List Item) : Option Res := den prog ann 56 (.code l10 :: .inLoop l10 :: .inBlock 10 :: K) ⟨[(1, x1), (2, x2), (3, x3), (4, x4), (7, x7), (8, x8), (9, x9), (56, x56), (57, x57), (60, x60), (61, x61), (69, x69), (70, x70)], 161, m⟩
def r23 := findReg b 23
def i5 := findCond b 5
def i5t := thenOf i5
def i5e := elseOf i5
def k11 := findBlk b 11
def r24 := findReg b 24
def r25 := findReg b 25
def i6 := findCond b 6
def i6t := thenOf i6
def i6e := elseOf i6
def r26 := findReg b 26
def r27 := findReg b 27
def r28 := findReg b 28
def r29 := findReg b 29
def r30 := findReg b 30
def r31 := findReg b 31
def r32 := findReg b 32
def r33 := findReg b 33
def k12 := findBlk b 12
def l12 := loopOf k12
def L12 (x1 x2 x11 x12 x13 x14 : AV) (m : Mem) (K : List Item) : Option Res := den prog ann 56 (.code l12 :: .inLoop l12 :: .inBlock 12 :: K) ⟨[(1, x1), (2, x2), (11, x11), (12, x12), (13, x13), (14, x14)], 161, m⟩
def r34 := findReg b 34
def i7 := findCond b 7
def i7t := thenOf i7
def i7e := elseOf i7
def k13 := findBlk b 13
def r36 := findReg b 36
def r37 := findReg b 37
def k14 := findBlk b 14
def l14 := loopOf k14
def L14 (x1 x2 x11 x12 x13 x14 x15 x128 x129 x130 : AV) (m : Mem) (K : List Item) : Option Res := den prog ann 56 (.code l14 :: .inLoop l14 :: .inBlock 14 :: K) ⟨[(1, x1), (2, x2), (11, x11), (12, x12), (13, x13), (14, x14), (15, x15), (128, x128), (129, x129), (130, x130)], 161, m⟩
def r38 := findReg b 38
def i8 := findCond b 8
def i8t := thenOf i8
def i8e := elseOf i8
def k15 := findBlk b 15
def r39 := findReg b 39
def r40 := findReg b 40
def r41 := findReg b 41
def r42 := findReg b 42
def r35 := findReg b 35
def r43 := findReg b 43
theorem b_eq : den prog ann 56 (.code b :: K) s = den prog ann 56 (.code r0 :: .code r1 :: .code r2 :: .code r3 :: .code k0 :: .code r13 :: .code k4 :: .code r30 :: .code r31 :: .code r32 :: .code r33 :: .code k12 :: .code r43 :: .code .ret :: K) s := den_flat hf (l := [r0, r1, r2, r3, k0, r13, k4, r30, r31, r32, r33, k12, r43, .ret]) (by kernel_rfl) K s
theorem r0_eq : den prog ann 56 (.code r0 :: K) s = mreg prog ann 56 none [] none [] [qA 1 frozenPtr 0,⟨some 2, none, .w false none fun s => newPtr s.m [.nils, .nils]⟩] K s := (den_reg hf _ K s).trans (by kernel_rfl)
theorem r1_eq : den prog ann 56 (.code r1 :: K) s = mreg prog ann 56 none [] none [] [qA 18 (fieldA 0) 1,qA 19 (loadF false 1) 18,qA 20 lenSl 19,qC 3 20] K s := (den_reg hf _ K s).trans (by kernel_rfl)
theorem r2_eq : den prog ann 56 (.code r2 :: K) s = mreg prog ann 56 none [] none [4] [qC 21 3,⟨some 22, none, .w false none fun s => makeA 1 24 (.nils) s.m (s.get 21) (s.get 21)⟩,⟨some 4, none, .w false none fun s => newPtr s.m [.nils]⟩,⟨none, none, .w false none fun s => stA false 1 s.m (s.get 4) (s.get 22)⟩] K s := (den_reg hf _ K s).trans (by kernel_rfl)
theorem r3_eq : den prog ann 56 (.code r3 :: K) s = mreg prog ann 56 none [] none [] [qC 23 3,qF 24 fun s => some (.int .i64 0)] K s := (den_reg hf _ K s).trans (by kernel_rfl)
theorem k0_eq (K : List Item) (t : List (Nat × AV)) (m : Mem) : den prog ann 56 (.code k0 :: K) ⟨t, 161, m⟩ = L0 (get t 1) (get t 2) (get t 3) (get t 4) (get t 23) (get t 24) m K := den_loop_enter hf (b := l0) (id := 4) (l := [1, 2, 3, 4, 23, 24]) (by kernel_rfl) (by kernel_rfl) (by kernel_rfl) K _
theorem l0_eq (K : List Item) (t : List (Nat × AV)) (m : Mem) : den prog ann 56 (.inLoop l0 :: .inBlock 0 :: K) ⟨t, 161, m⟩ = L0 (get t 1) (get t 2) (get t 3) (get t 4) (get t 23) (get t 24) m K := den_loop_again hf (id := 4) (l := [1, 2, 3, 4, 23, 24]) (by kernel_rfl) (by kernel_rfl) (.inBlock 0 :: K) _
theorem L0_eq (x1 x2 x3 x4 x23 x24 : AV) (m : Mem) (K : List Item) : L0 x1 x2 x3 x4 x23 x24 m K = den prog ann 56 (.code r4 :: .code i0 :: .code k1 :: .code r12 :: .inLoop l0 :: .inBlock 0 :: K) ⟨[(1, x1), (2, x2), (3, x3), (4, x4), (23, x23), (24, x24)], 161, m⟩ := den_flat hf (l := [r4, i0, k1, r12]) (by kernel_rfl) _ _
theorem r4_eq : den prog ann 56 (.code r4 :: K) s = mreg prog ann 56 (some [1, 2, 3, 4, 23, 24]) [] none [] [qB 25 (binA prog .lss 3) 24 23] K s := (den_reg hf _ K s).trans (by kernel_rfl)
theorem i0_eq : den prog ann 56 (.code i0 :: K) s = ifV prog ann 56 25 i0t i0e K s (s.get 25) := den_if hf (by kernel_rfl) K s
theorem i0t_eq : den prog ann 56 (.code i0t :: K) s = den prog ann 56 (K) s := den_flat hf (l := []) (by kernel_rfl) K s
theorem i0e_eq : den prog ann 56 (.code i0e :: K) s = den prog ann 56 (.code (.exit 0) :: K) s := den_flat hf (l := [(.exit 0)]) (by kernel_rfl) K s
theorem k1_eq : den prog ann 56 (.code k1 :: K) s = den prog ann 56 (.code r5 :: .code r6 :: .code r7 :: .code k2 :: .inBlock 1 :: K) s := den_blk hf (b := blkOf k1) (l := [r5, r6, r7, k2]) (by kernel_rfl) (by kernel_rfl) K s
theorem r5_eq : den prog ann 56 (.code r5 :: K) s = mreg prog ann 56 none [] none [] [qC 26 24,qC 5 26] K s := (den_reg hf _ K s).trans (by kernel_rfl)
theorem r6_draw : drawOk (fun g => (ann g).pure) (modeOf (ann 56) (idOf r6)) (frzOf (ann 56) (idOf r6)) (opsOf r6) = true := drawOk_of (an := [0, 0, 0, 4, 15, 31]) (by kernel_rfl) (by kernel_rfl)
theorem r6_eq : den prog ann 56 (.code r6 :: K) s = mreg prog ann 56 none [] (some 6) [] [qA 27 (loadF false 1) 4,qC 28 5,qC 29 3,⟨some 30, none, .w false (some 3) fun s => makeA 1 1 (.bool false) s.m (s.get 29) (s.get 29)⟩,qB 31 (idxSl 1) 27 28,⟨none, none, .w false (some 5) fun s => stA false 1 s.m (s.get 31) (s.get 30)⟩] K s := (den_regD hf r6_draw K s).trans (by kernel_rfl)
theorem r7_eq : den prog ann 56 (.code r7 :: K) s = mreg prog ann 56 none [] none [] [qC 32 3,qF 33 fun s => some (.int .i64 0)] K s := (den_reg hf _ K s).trans (by kernel_rfl)
theorem k2_eq (K : List Item) (t : List (Nat × AV)) (m : Mem) : den prog ann 56 (.code k2 :: K) ⟨t, 161, m⟩ = L2 (get t 1) (get t 2) (get t 3) (get t 4) (get t 5) (get t 23) (get t 24) (get t 32) (get t 33) m K := den_loop_enter hf (b := l2) (id := 8) (l := [1, 2, 3, 4, 5, 23, 24, 32, 33]) (by kernel_rfl) (by kernel_rfl) (by kernel_rfl) K _
theorem l2_eq (K : List Item) (t : List (Nat × AV)) (m : Mem) : den prog ann 56 (.inLoop l2 :: .inBlock 2 :: K) ⟨t, 161, m⟩ = L2 (get t 1) (get t 2) (get t 3) (get t 4) (get t 5) (get t 23) (get t 24) (get t 32) (get t 33) m K := den_loop_again hf (id := 8) (l := [1, 2, 3, 4, 5, 23, 24, 32, 33]) (by kernel_rfl) (by kernel_rfl) (.inBlock 2 :: K) _
theorem L2_eq (x1 x2 x3 x4 x5 x23 x24 x32 x33 : AV) (m : Mem) (K : List Item) : L2 x1 x2 x3 x4 x5 x23 x24 x32 x33 m K = den prog ann 56 (.code r8 :: .code i1 :: .code k3 :: .code r11 :: .inLoop l2 :: .inBlock 2 :: K) ⟨[(1, x1), (2, x2), (3, x3), (4, x4), (5, x5), (23, x23), (24, x24), (32, x32), (33, x33)], 161, m⟩ := den_flat hf (l := [r8, i1, k3, r11]) (by kernel_rfl) _ _
theorem r8_eq : den prog ann 56 (.code r8 :: K) s = mreg prog ann 56 (some [1, 2, 3, 4, 5, 23, 24, 32, 33]) [] none [] [qB 34 (binA prog .lss 3) 33 32] K s := (den_reg hf _ K s).trans (by kernel_rfl)
theorem i1_eq : den prog ann 56 (.code i1 :: K) s = ifV prog ann 56 34 i1t i1e K s (s.get 34) := den_if hf (by kernel_rfl) K s
theorem i1t_eq : den prog ann 56 (.code i1t :: K) s = den prog ann 56 (K) s := den_flat hf (l := []) (by kernel_rfl) K s
theorem i1e_eq : den prog ann 56 (.code i1e :: K) s = den prog ann 56 (.code (.exit 2) :: K) s := den_flat hf (l := [(.exit 2)]) (by kernel_rfl) K s
theorem k3_eq : den prog ann 56 (.code k3 :: K) s = den prog ann 56 (.code r9 :: .code r10 :: .inBlock 3 :: K) s := den_blk hf (b := blkOf k3) (l := [r9, r10]) (by kernel_rfl) (by kernel_rfl) K s
theorem r9_eq : den prog ann 56 (.code r9 :: K) s = mreg prog ann 56 none [] none [] [qC 35 33,qC 6 35] K s := (den_reg hf _ K s).trans (by kernel_rfl)
theorem r10_draw : drawOk (fun g => (ann g).pure) (modeOf (ann 56) (idOf r10)) (frzOf (ann 56) (idOf r10)) (opsOf r10) = true := drawOk_of (an := [0, 0, 3, 7, 0, 0, 32, 0, 224, 480, 0, 1024, 0, 7168, 15360, 32736, 65535, 131071]) (by kernel_rfl) (by kernel_rfl)
theorem r10_eq : den prog ann 56 (.code r10 :: K) s = mreg prog ann 56 none [] (some 18) [] [qA 36 (loadF false 1) 4,qC 37 5,qB 38 (idxSl 1) 36 37,qF 39 fun s => loadA false 1 s.m (s.get 38),qC 40 6,qA 41 (fieldA 1) 1,qA 42 (loadF false 1) 41,qC 43 5,qB 44 (idxSl 1) 42 43,qA 45 (loadF false 1) 44,qA 46 (fieldA 1) 1,qA 47 (loadF false 1) 46,qC 48 6,qB 49 (idxSl 1) 47 48,qA 50 (loadF false 1) 49,qB 51 (binA prog .neq 4) 45 50,qB 52 (idxSl 1) 39 40,⟨none, none, .w false (some 17) fun s => stA false 1 s.m (s.get 52) (s.get 51)⟩] K s := (den_regD hf r10_draw K s).trans (by kernel_rfl)
theorem r11_eq : den prog ann 56 (.code r11 :: K) s = mreg prog ann 56 (some [1, 2, 3, 4, 5, 23, 24, 32, 33]) [] none [] [qF 53 fun s => binA prog .add 3 (s.get 33) (.int .i64 1),qC 33 53] K s := (den_reg hf _ K s).trans (by kernel_rfl)
theorem r12_eq : den prog ann 56 (.code r12 :: K) s = mreg prog ann 56 (some [1, 2, 3, 4, 23, 24]) [] none [] [qF 54 fun s => binA prog .add 3 (s.get 24) (.int .i64 1),qC 24 54] K s := (den_reg hf _ K s).trans (by kernel_rfl)
theorem r13_eq : den prog ann 56 (.code r13 :: K) s = mreg prog ann 56 (some [1, 2, 3, 4]) [] none [] [qF 7 fun s => some (.bool true)] K s := (den_reg hf _ K s).trans (by kernel_rfl)
theorem k4_eq (K : List Item) (t : List (Nat × AV)) (m : Mem) : den prog ann 56 (.code k4 :: K) ⟨t, 161, m⟩ = L4 (get t 1) (get t 2) (get t 3) (get t 4) (get t 7) m K := den_loop_enter hf (b := l4) (id := 14) (l := [1, 2, 3, 4, 7]) (by kernel_rfl) (by kernel_rfl) (by kernel_rfl) K _
theorem l4_eq (K : List Item) (t : List (Nat × AV)) (m : Mem) : den prog ann 56 (.inLoop l4 :: .inBlock 4 :: K) ⟨t, 161, m⟩ = L4 (get t 1) (get t 2) (get t 3) (get t 4) (get t 7) m K := den_loop_again hf (id := 14) (l := [1, 2, 3, 4, 7]) (by kernel_rfl) (by kernel_rfl) (.inBlock 4 :: K) _
theorem L4_eq (x1 x2 x3 x4 x7 : AV) (m : Mem) (K : List Item) : L4 x1 x2 x3 x4 x7 m K = den prog ann 56 (.code r14 :: .code i2 :: .code k5 :: .inLoop l4 :: .inBlock 4 :: K) ⟨[(1, x1), (2, x2), (3, x3), (4, x4), (7, x7)], 161, m⟩ := den_flat hf (l := [r14, i2, k5]) (by kernel_rfl) _ _
theorem r14_eq : den prog ann 56 (.code r14 :: K) s = mreg prog ann 56 (some [1, 2, 3, 4, 7]) [] none [] [qC 55 7] K s := (den_reg hf _ K s).trans (by kernel_rfl)
theorem i2_eq : den prog ann 56 (.code i2 :: K) s = ifV prog ann 56 55 i2t i2e K s (s.get 55) := den_if hf (by kernel_rfl) K s
theorem i2t_eq : den prog ann 56 (.code i2t :: K) s = den prog ann 56 (K) s := den_flat hf (l := []) (by kernel_rfl) K s
theorem i2e_eq : den prog ann 56 (.code i2e :: K) s = den prog ann 56 (.code (.exit 4) :: K) s := den_flat hf (l := [(.exit 4)]) (by kernel_rfl) K s
theorem k5_eq : den prog ann 56 (.code k5 :: K) s = den prog ann 56 (.code r15 :: .code r16 :: .code k6 :: .inBlock 5 :: K) s := den_blk hf (b := blkOf k5) (l := [r15, r16, k6]) (by kernel_rfl) (by kernel_rfl) K s
theorem r15_eq : den prog ann 56 (.code r15 :: K) s = mreg prog ann 56 none [] none [] [qF 7 fun s => some (.bool false)] K s := (den_reg hf _ K s).trans (by kernel_rfl)
theorem r16_eq : den prog ann 56 (.code r16 :: K) s = mreg prog ann 56 none [] none [] [qC 56 3,qF 57 fun s => some (.int .i64 0)] K s := (den_reg hf _ K s).trans (by kernel_rfl)
theorem k6_eq (K : List Item) (t : List (Nat × AV)) (m : Mem) : den prog ann 56 (.code k6 :: K) ⟨t, 161, m⟩ = L6 (get t 1) (get t 2) (get t 3) (get t 4) (get t 7) (get t 56) (get t 57) m K := den_loop_enter hf (b := l6) (id := 17) (l := [1, 2, 3, 4, 7, 56, 57]) (by kernel_rfl) (by kernel_rfl) (by kernel_rfl) K _
theorem l6_eq (K : List Item) (t : List (Nat × AV)) (m : Mem) : den prog ann 56 (.inLoop l6 :: .inBlock 6 :: K) ⟨t, 161, m⟩ = L6 (get t 1) (get t 2) (get t 3) (get t 4) (get t 7) (get t 56) (get t 57) m K := den_loop_again hf (id := 17) (l := [1, 2, 3, 4, 7, 56, 57]) (by kernel_rfl) (by kernel_rfl) (.inBlock 6 :: K) _
theorem L6_eq (x1 x2 x3 x4 x7 x56 x57 : AV) (m : Mem) (K : List Item) : L6 x1 x2 x3 x4 x7 x56 x57 m K = den prog ann 56 (.code r17 :: .code i3 :: .code k7 :: .code r29 :: .inLoop l6 :: .inBlock 6 :: K) ⟨[(1, x1), (2, x2), (3, x3), (4, x4), (7, x7), (56, x56), (57, x57)], 161, m⟩ := den_flat hf (l := [r17, i3, k7, r29]) (by kernel_rfl) _ _
theorem r17_eq : den prog ann 56 (.code r17 :: K) s = mreg prog ann 56 (some [1, 2, 3, 4, 7, 56, 57]) [] none [] [qB 58 (binA prog .lss 3) 57 56] K s := (den_reg hf _ K s).trans (by kernel_rfl)
theorem i3_eq : den prog ann 56 (.code i3 :: K) s = ifV prog ann 56 58 i3t i3e K s (s.get 58) := den_if hf (by kernel_rfl) K s
theorem i3t_eq : den prog ann 56 (.code i3t :: K) s = den prog ann 56 (K) s := den_flat hf (l := []) (by kernel_rfl) K s
theorem i3e_eq : den prog ann 56 (.code i3e :: K) s = den prog ann 56 (.code (.exit 6) :: K) s := den_flat hf (l := [(.exit 6)]) (by kernel_rfl) K s
theorem k7_eq : den prog ann 56 (.code k7 :: K) s = den prog ann 56 (.code r18 :: .code r19 :: .code k8 :: .inBlock 7 :: K) s := den_blk hf (b := blkOf k7) (l := [r18, r19, k8]) (by kernel_rfl) (by kernel_rfl) K s
theorem r18_eq : den prog ann 56 (.code r18 :: K) s = mreg prog ann 56 none [] none [] [qC 59 57,qC 8 59] K s := (den_reg hf _ K s).trans (by kernel_rfl)
theorem r19_eq : den prog ann 56 (.code r19 :: K) s = mreg prog ann 56 none [] none [] [qC 60 3,qF 61 fun s => some (.int .i64 0)] K s := (den_reg hf _ K s).trans (by kernel_rfl)
theorem k8_eq (K : List Item) (t : List (Nat × AV)) (m : Mem) : den prog ann 56 (.code k8 :: K) ⟨t, 161, m⟩ = L8 (get t 1) (get t 2) (get t 3) (get t 4) (get t 7) (get t 8) (get t 56) (get t 57) (get t 60) (get t 61) m K := den_loop_enter hf (b := l8) (id := 20) (l := [1, 2, 3, 4, 7, 8, 56, 57, 60, 61]) (by kernel_rfl) (by kernel_rfl) (by kernel_rfl) K _
theorem l8_eq (K : List Item) (t : List (Nat × AV)) (m : Mem) : den prog ann 56 (.inLoop l8 :: .inBlock 8 :: K) ⟨t, 161, m⟩ = L8 (get t 1) (get t 2) (get t 3) (get t 4) (get t 7) (get t 8) (get t 56) (get t 57) (get t 60) (get t 61) m K := den_loop_again hf (id := 20) (l := [1, 2, 3, 4, 7, 8, 56, 57, 60, 61]) (by kernel_rfl) (by kernel_rfl) (.inBlock 8 :: K) _
theorem L8_eq (x1 x2 x3 x4 x7 x8 x56 x57 x60 x61 : AV) (m : Mem) (K : List Item) : L8 x1 x2 x3 x4 x7 x8 x56 x57 x60 x61 m K = den prog ann 56 (.code r20 :: .code i4 :: .code k9 :: .code r28 :: .inLoop l8 :: .inBlock 8 :: K) ⟨[(1, x1), (2, x2), (3, x3), (4, x4), (7, x7), (8, x8), (56, x56), (57, x57), (60, x60), (61, x61)], 161, m⟩ := den_flat hf (l := [r20, i4, k9, r28]) (by kernel_rfl) _ _
theorem r20_eq : den prog ann 56 (.code r20 :: K) s = mreg prog ann 56 (some [1, 2, 3, 4, 7, 8, 56, 57, 60, 61]) [] none [] [qB 62 (binA prog .lss 3) 61 60] K s := (den_reg hf _ K s).trans (by kernel_rfl)
theorem i4_eq : den prog ann 56 (.code i4 :: K) s = ifV prog ann 56 62 i4t i4e K s (s.get 62) := den_if hf (by kernel_rfl) K s
theorem i4t_eq : den prog ann 56 (.code i4t :: K) s = den prog ann 56 (K) s := den_flat hf (l := []) (by kernel_rfl) K s
theorem i4e_eq : den prog ann 56 (.code i4e :: K) s = den prog ann 56 (.code (.exit 8) :: K) s := den_flat hf (l := [(.exit 8)]) (by kernel_rfl) K s
theorem k9_eq : den prog ann 56 (.code k9 :: K) s = den prog ann 56 (.code r21 :: .code r22 :: .code k10 :: .inBlock 9 :: K) s := den_blk hf (b := blkOf k9) (l := [r21, r22, k10]) (by kernel_rfl) (by kernel_rfl) K s
theorem r21_eq : den prog ann 56 (.code r21 :: K) s = mreg prog ann 56 none [] none [] [qC 63 61,qC 9 63] K s := (den_reg hf _ K s).trans (by kernel_rfl)
theorem r22_eq : den prog ann 56 (.code r22 :: K) s = mreg prog ann 56 none [] none [] [qA 64 (fieldA 0) 1,qA 65 (loadF false 1) 64,qC 66 8,qB 67 (idxSl 1) 65 66,qA 68 (loadF false 1) 67,qA 69 lenSl 68,qF 70 fun s => some (.int .i64 0)] K s := (den_reg hf _ K s).trans (by kernel_rfl)
theorem k10_eq (K : List Item) (t : List (Nat × AV)) (m : Mem) : den prog ann 56 (.code k10 :: K) ⟨t, 161, m⟩ = L10 (get t 1) (get t 2) (get t 3) (get t 4) (get t 7) (get t 8) (get t 9) (get t 56) (get t 57) (get t 60) (get t 61) (get t 69) (get t 70) m K := den_loop_enter hf (b := l10) (id := 23) (l := [1, 2, 3, 4, 7, 8, 9, 56, 57, 60, 61, 69, 70]) (by kernel_rfl) (by kernel_rfl) (by kernel_rfl) K _
theorem l10_eq (K : List Item) (t : List (Nat × AV)) (m : Mem) : den prog ann 56 (.inLoop l10 :: .inBlock 10 :: K) ⟨t, 161, m⟩ = L10 (get t 1) (get t 2) (get t 3) (get t 4) (get t 7) (get t 8) (get t 9) (get t 56) (get t 57) (get t 60) (get t 61) (get t 69) (get t 70) m K := den_loop_again hf (id := 23) (l := [1, 2, 3, 4, 7, 8, 9, 56, 57, 60, 61, 69, 70]) (by kernel_rfl) (by kernel_rfl) (.inBlock 10 :: K) _
theorem L10_eq (x1 x2 x3 x4 x7 x8 x9 x56 x57 x60 x61 x69 x70 : AV) (m : Mem) (K : List Item) : L10 x1 x2 x3 x4 x7 x8 x9 x56 x57 x60 x61 x69 x70 m K = den prog ann 56 (.code r23 :: .code i5 :: .code k11 :: .code r27 :: .inLoop l10 :: .inBlock 10 :: K) ⟨[(1, x1), (2, x2), (3, x3), (4, x4), (7, x7), (8, x8), (9, x9), (56, x56), (57, x57), (60, x60), (61, x61), (69, x69), (70, x70)], 161, m⟩ := den_flat hf (l := [r23, i5, k11, r27]) (by kernel_rfl) _ _
theorem r23_eq : den prog ann 56 (.code r23 :: K) s = mreg prog ann 56 (some [1, 2, 3, 4, 7, 8, 9, 56, 57, 60, 61, 69, 70]) [] none [] [qB 71 (binA prog .lss 3) 70 69] K s := (den_reg hf _ K s).trans (by kernel_rfl)
theorem i5_eq : den prog ann 56 (.code i5 :: K) s = ifV prog ann 56 71 i5t i5e K s (s.get 71) := den_if hf (by kernel_rfl) K s
theorem i5t_eq : den prog ann 56 (.code i5t :: K) s = den prog ann 56 (K) s := den_flat hf (l := []) (by kernel_rfl) K s
theorem i5e_eq : den prog ann 56 (.code i5e :: K) s = den prog ann 56 (.code (.exit 10) :: K) s := den_flat hf (l := [(.exit 10)]) (by kernel_rfl) K s
theorem k11_eq : den prog ann 56 (.code k11 :: K) s = den prog ann 56 (.code r24 :: .code r25 :: .code i6 :: .inBlock 11 :: K) s := den_blk hf (b := blkOf k11) (l := [r24, r25, i6]) (by kernel_rfl) (by kernel_rfl) K s
theorem r24_eq : den prog ann 56 (.code r24 :: K) s = mreg prog ann 56 none [] none [] [qC 72 70,qC 10 72] K s := (den_reg hf _ K s).trans (by kernel_rfl)
theorem r25_draw : drawOk (fun g => (ann g).pure) (modeOf (ann 56) (idOf r25)) (frzOf (ann 56) (idOf r25)) (opsOf r25) = true := drawOk_of (an := [0, 0, 3, 7, 0, 31, 63, 127, 255, 511, 511, 1535, 511, 7679, 15871, 511, 65023, 130559, 262143, 524287, 511, 1049087, 511, 7340543, 15729151, 511, 66060799, 133169663, 268435455, 536870911, 1073741823]) (by kernel_rfl) (by kernel_rfl)
theorem r25_eq : den prog ann 56 (.code r25 :: K) s = mreg prog ann 56 none [] (some 31) [] [qA 73 (loadF false 1) 4,qC 74 8,qB 75 (idxSl 1) 73 74,qF 76 fun s => loadA false 1 s.m (s.get 75),qC 77 9,qB 78 (idxSl 1) 76 77,qF 79 fun s => loadA false 1 s.m (s.get 78),qA 80 (unA .not) 79,qC 81 80,⟨some 82, some (81, true), .v fun s => loadF false 1 (s.get 4)⟩,⟨some 83, some (81, true), .v fun s => fieldA 0 (s.get 1)⟩,⟨some 84, some (81, true), .v fun s => loadF false 1 (s.get 83)⟩,⟨some 85, some (81, true), .v fun s => some (s.get 8)⟩,⟨some 86, some (81, true), .v fun s => idxSl 1 (s.get 84) (s.get 85)⟩,⟨some 87, some (81, true), .v fun s => loadF false 1 (s.get 86)⟩,⟨some 88, some (81, true), .v fun s => some (s.get 10)⟩,⟨some 89, some (81, true), .v fun s => idxSl 1 (s.get 87) (s.get 88)⟩,⟨some 90, some (81, true), .v fun s => loadF false 1 (s.get 89)⟩,⟨some 91, some (81, true), .v fun s => idxSl 1 (s.get 82) (s.get 90)⟩,⟨some 92, some (81, true), .v fun s => loadA false 1 s.m (s.get 91)⟩,⟨some 93, some (81, true), .v fun s => fieldA 0 (s.get 1)⟩,⟨some 94, some (81, true), .v fun s => loadF false 1 (s.get 93)⟩,⟨some 95, some (81, true), .v fun s => some (s.get 9)⟩,⟨some 96, some (81, true), .v fun s => idxSl 1 (s.get 94) (s.get 95)⟩,⟨some 97, some (81, true), .v fun s => loadF false 1 (s.get 96)⟩,⟨some 98, some (81, true), .v fun s => some (s.get 10)⟩,⟨some 99, some (81, true), .v fun s => idxSl 1 (s.get 97) (s.get 98)⟩,⟨some 100, some (81, true), .v fun s => loadF false 1 (s.get 99)⟩,⟨some 101, some (81, true), .v fun s => idxSl 1 (s.get 92) (s.get 100)⟩,⟨some 102, some (81, true), .v fun s => loadA false 1 s.m (s.get 101)⟩,qF 103 fun s => pickA (s.get 81) (s.get 102) (.bool false)] K s := (den_regD hf r25_draw K s).trans (by kernel_rfl)
theorem i6_eq : den prog ann 56 (.code i6 :: K) s = ifV prog ann 56 103 i6t i6e K s (s.get 103) := den_if hf (by kernel_rfl) K s
theorem i6t_eq : den prog ann 56 (.code i6t :: K) s = den prog ann 56 (.code r26 :: K) s := den_flat hf (l := [r26]) (by kernel_rfl) K s
theorem r26_eq : den prog ann 56 (.code r26 :: K) s = mreg prog ann 56 none [] none [] [qA 104 (loadF false 1) 4,qC 105 8,qB 106 (idxSl 1) 104 105,qF 107 fun s => loadA false 1 s.m (s.get 106),qC 108 9,qB 109 (idxSl 1) 107 108,⟨none, none, .w false none fun s => stA false 1 s.m (s.get 109) (.bool true)⟩,qF 7 fun s => some (.bool true)] K s := (den_reg hf _ K s).trans (by kernel_rfl)
theorem i6e_eq : den prog ann 56 (.code i6e :: K) s = den prog ann 56 (K) s := den_flat hf (l := []) (by kernel_rfl) K s
theorem r27_eq : den prog ann 56 (.code r27 :: K) s = mreg prog ann 56 (some [1, 2, 3, 4, 7, 8, 9, 56, 57, 60, 61, 69, 70]) [] none [] [qF 110 fun s => binA prog .add 3 (s.get 70) (.int .i64 1),qC 70 110] K s := (den_reg hf _ K s).trans (by kernel_rfl)
theorem r28_eq : den prog ann 56 (.code r28 :: K) s = mreg prog ann 56 (some [1, 2, 3, 4, 7, 8, 56, 57, 60, 61]) [] none [] [qF 111 fun s => binA prog .add 3 (s.get 61) (.int .i64 1),qC 61 111] K s := (den_reg hf _ K s).trans (by kernel_rfl)
theorem r29_eq : den prog ann 56 (.code r29 :: K) s = mreg prog ann 56 (some [1, 2, 3, 4, 7, 56, 57]) [] none [] [qF 112 fun s => binA prog .add 3 (s.get 57) (.int .i64 1),qC 57 112] K s := (den_reg hf _ K s).trans (by kernel_rfl)
theorem r30_eq : den prog ann 56 (.code r30 :: K) s = mreg prog ann 56 (some [1, 2, 4]) [] none [] [⟨some 11, none, .w false none fun s => newPtr s.m [.nils, .nils]⟩] K s := (den_reg hf _ K s).trans (by kernel_rfl)
theorem r31_eq : den prog ann 56 (.code r31 :: K) s = mreg prog ann 56 none [] none [] [⟨some 113, none, .w false none fun s => bslM s.m 1 (bslA 1 1 [.int .i64 0] [(0, (.int .i64 0))])⟩,⟨some 12, none, .w false none fun s => newPtr s.m [.nils]⟩,⟨none, none, .w false none fun s => stA false 1 s.m (s.get 12) (s.get 113)⟩] K s := (den_reg hf _ K s).trans (by kernel_rfl)
theorem r32_eq : den prog ann 56 (.code r32 :: K) s = mreg prog ann 56 none [] none [] [qF 114 fun s => some (.fn 80 [] [(s.get 12), (s.get 4)]),qC 13 114] K s := (den_reg hf _ K s).trans (by kernel_rfl)
theorem r33_eq : den prog ann 56 (.code r33 :: K) s = mreg prog ann 56 none [] none [] [qF 14 fun s => some (.int .i64 0)] K s := (den_reg hf _ K s).trans (by kernel_rfl)
theorem k12_eq (K : List Item) (t : List (Nat × AV)) (m : Mem) : den prog ann 56 (.code k12 :: K) ⟨t, 161, m⟩ = L12 (get t 1) (get t 2) (get t 11) (get t 12) (get t 13) (get t 14) m K := den_loop_enter hf (b := l12) (id := 34) (l := [1, 2, 11, 12, 13, 14]) (by kernel_rfl) (by kernel_rfl) (by kernel_rfl) K _
theorem l12_eq (K : List Item) (t : List (Nat × AV)) (m : Mem) : den prog ann 56 (.inLoop l12 :: .inBlock 12 :: K) ⟨t, 161, m⟩ = L12 (get t 1) (get t 2) (get t 11) (get t 12) (get t 13) (get t 14) m K := den_loop_again hf (id := 34) (l := [1, 2, 11, 12, 13, 14]) (by kernel_rfl) (by kernel_rfl) (.inBlock 12 :: K) _
theorem L12_eq (x1 x2 x11 x12 x13 x14 : AV) (m : Mem) (K : List Item) : L12 x1 x2 x11 x12 x13 x14 m K = den prog ann 56 (.code r34 :: .code i7 :: .code k13 :: .code r35 :: .inLoop l12 :: .inBlock 12 :: K) ⟨[(1, x1), (2, x2), (11, x11), (12, x12), (13, x13), (14, x14)], 161, m⟩ := den_flat hf (l := [r34, i7, k13, r35]) (by kernel_rfl) _ _
theorem r34_eq : den prog ann 56 (.code r34 :: K) s = mreg prog ann 56 (some [1, 2, 11, 12, 13, 14]) [] none [] [qC 115 14,qF 116 fun s => loadA false 1 s.m (s.get 12),qA 117 lenSl 116,qB 118 (binA prog .lss 3) 115 117] K s := (den_reg hf _ K s).trans (by kernel_rfl)
theorem i7_eq : den prog ann 56 (.code i7 :: K) s = ifV prog ann 56 118 i7t i7e K s (s.get 118) := den_if hf (by kernel_rfl) K s
theorem i7t_eq : den prog ann 56 (.code i7t :: K) s = den prog ann 56 (K) s := den_flat hf (l := []) (by kernel_rfl) K s
theorem i7e_eq : den prog ann 56 (.code i7e :: K) s = den prog ann 56 (.code (.exit 12) :: K) s := den_flat hf (l := [(.exit 12)]) (by kernel_rfl) K s
theorem k13_eq : den prog ann 56 (.code k13 :: K) s = den prog ann 56 (.code r36 :: .code r37 :: .code k14 :: .code r42 :: .inBlock 13 :: K) s := den_blk hf (b := blkOf k13) (l := [r36, r37, k14, r42]) (by kernel_rfl) (by kernel_rfl) K s
theorem r36_eq : den prog ann 56 (.code r36 :: K) s = mreg prog ann 56 none [] none [] [qF 15 fun s => some (.nils)] K s := (den_reg hf _ K s).trans (by kernel_rfl)
theorem r37_draw : drawOk (fun g => (ann g).pure) (modeOf (ann 56) (idOf r37)) (frzOf (ann 56) (idOf r37)) (opsOf r37) = true := drawOk_of (an := [0, 1, 0, 0, 12, 28, 63, 127, 255, 0]) (by kernel_rfl) (by kernel_rfl)
theorem r37_eq : den prog ann 56 (.code r37 :: K) s = mreg prog ann 56 none [] (some 10) [] [qA 121 (fieldA 0) 1,qA 122 (loadF false 1) 121,qF 123 fun s => loadA false 1 s.m (s.get 12),qC 124 14,qB 125 (idxSl 1) 123 124,qF 126 fun s => loadA false 1 s.m (s.get 125),qB 127 (idxSl 1) 122 126,qA 128 (loadF false 1) 127,qA 129 lenSl 128,qF 130 fun s => some (.int .i64 0)] K s := (den_regD hf r37_draw K s).trans (by kernel_rfl)
theorem k14_eq (K : List Item) (t : List (Nat × AV)) (m : Mem) : den prog ann 56 (.code k14 :: K) ⟨t, 161, m⟩ = L14 (get t 1) (get t 2) (get t 11) (get t 12) (get t 13) (get t 14) (get t 15) (get t 128) (get t 129) (get t 130) m K := den_loop_enter hf (b := l14) (id := 38) (l := [1, 2, 11, 12, 13, 14, 15, 128, 129, 130]) (by kernel_rfl) (by kernel_rfl) (by kernel_rfl) K _
theorem l14_eq (K : List Item) (t : List (Nat × AV)) (m : Mem) : den prog ann 56 (.inLoop l14 :: .inBlock 14 :: K) ⟨t, 161, m⟩ = L14 (get t 1) (get t 2) (get t 11) (get t 12) (get t 13) (get t 14) (get t 15) (get t 128) (get t 129) (get t 130) m K := den_loop_again hf (id := 38) (l := [1, 2, 11, 12, 13, 14, 15, 128, 129, 130]) (by kernel_rfl) (by kernel_rfl) (.inBlock 14 :: K) _
theorem L14_eq (x1 x2 x11 x12 x13 x14 x15 x128 x129 x130 : AV) (m : Mem) (K : List Item) : L14 x1 x2 x11 x12 x13 x14 x15 x128 x129 x130 m K = den prog ann 56 (.code r38 :: .code i8 :: .code k15 :: .code r41 :: .inLoop l14 :: .inBlock 14 :: K) ⟨[(1, x1), (2, x2), (11, x11), (12, x12), (13, x13), (14, x14), (15, x15), (128, x128), (129, x129), (130, x130)], 161, m⟩ := den_flat hf (l := [r38, i8, k15, r41]) (by kernel_rfl) _ _
theorem r38_eq : den prog ann 56 (.code r38 :: K) s = mreg prog ann 56 (some [1, 2, 11, 12, 13, 14, 15, 128, 129, 130]) [] none [] [qB 131 (binA prog .lss 3) 130 129] K s := (den_reg hf _ K s).trans (by kernel_rfl)
theorem i8_eq : den prog ann 56 (.code i8 :: K) s = ifV prog ann 56 131 i8t i8e K s (s.get 131) := den_if hf (by kernel_rfl) K s
theorem i8t_eq : den prog ann 56 (.code i8t :: K) s = den prog ann 56 (K) s := den_flat hf (l := []) (by kernel_rfl) K s
theorem i8e_eq : den prog ann 56 (.code i8e :: K) s = den prog ann 56 (.code (.exit 14) :: K) s := den_flat hf (l := [(.exit 14)]) (by kernel_rfl) K s
theorem k15_eq : den prog ann 56 (.code k15 :: K) s = den prog ann 56 (.code r39 :: .code r40 :: .inBlock 15 :: K) s := den_blk hf (b := blkOf k15) (l := [r39, r40]) (by kernel_rfl) (by kernel_rfl) K s
theorem r39_eq : den prog ann 56 (.code r39 :: K) s = mreg prog ann 56 none [] none [] [qB 132 (idxSl 1) 128 130,qA 133 (loadF false 1) 132,qC 17 133] K s := (den_reg hf _ K s).trans (by kernel_rfl)
theorem r40_eq : den prog ann 56 (.code r40 :: K) s = mreg prog ann 56 none [] none [] [qC 134 15,qC 135 13,qC 136 17,⟨some 137, none, .c 0 (fun s => (s.get 135)) fun s => [(s.get 136)]⟩,qF 138 fun s => bslF 1 (bslA 1 1 [.int .i64 0] [(0, (s.get 137))]),⟨some 139, none, .w false none fun s => appendA 1 8 s.m (s.get 134) (s.get 138)⟩,qC 15 139] K s := (den_reg hf _ K s).trans (by kernel_rfl)
theorem r41_eq : den prog ann 56 (.code r41 :: K) s = mreg prog ann 56 (some [1, 2, 11, 12, 13, 14, 15, 128, 129, 130]) [] none [] [qF 140 fun s => binA prog .add 3 (s.get 130) (.int .i64 1),qC 130 140] K s := (den_reg hf _ K s).trans (by kernel_rfl)
theorem r42_draw : drawOk (fun g => (ann g).pure) (modeOf (ann 56) (idOf r42)) (frzOf (ann 56) (idOf r42)) (opsOf r42) = true := drawOk_of (an := [0, 1, 0, 4, 15, 0, 32, 0, 128, 0, 0, 1536, 3584, 8064, 16256, 32640, 65535, 127, 262143, 524287, 1048575]) (by kernel_rfl) (by kernel_rfl)
theorem r42_eq : den prog ann 56 (.code r42 :: K) s = mreg prog ann 56 (some [1, 2, 11, 12, 13, 14, 15]) [15] (some 21) [3142146, 2000144, 3142012, 3142152] [qA 141 (fieldA 0) 11,qF 142 fun s => loadA false 1 s.m (s.get 141),qC 143 15,qF 144 fun s => bslF 1 (bslA 1 1 [.nils] [(0, (s.get 143))]),⟨some 145, none, .w false (some 4) fun s => appendA 1 24 s.m (s.get 142) (s.get 144)⟩,qA 146 (fieldA 1) 11,qF 147 fun s => loadA false 1 s.m (s.get 146),qA 148 (fieldA 1) 1,qA 149 (loadF false 1) 148,qF 150 fun s => loadA false 1 s.m (s.get 12),qC 151 14,qB 152 (idxSl 1) 150 151,qF 153 fun s => loadA false 1 s.m (s.get 152),qB 154 (idxSl 1) 149 153,qA 155 (loadF false 1) 154,qF 156 fun s => bslF 1 (bslA 1 1 [.bool false] [(0, (s.get 155))]),⟨some 157, none, .w false (some 16) fun s => appendA 1 1 s.m (s.get 147) (s.get 156)⟩,qA 158 (fieldA 0) 11,⟨none, none, .w false (some 18) fun s => stA false 1 s.m (s.get 158) (s.get 145)⟩,qA 159 (fieldA 1) 11,⟨none, none, .w false (some 20) fun s => stA false 1 s.m (s.get 159) (s.get 157)⟩] K s := (den_regD hf r42_draw K s).trans (by kernel_rfl)
theorem r35_eq : den prog ann 56 (.code r35 :: K) s = mreg prog ann 56 (some [1, 2, 11, 12, 13, 14]) [] none [] [qC 119 14,qF 120 fun s => binA prog .add 3 (s.get 119) (.int .i64 1),qC 14 120] K s := (den_reg hf _ K s).trans (by kernel_rfl)
theorem r43_eq : den prog ann 56 (.code r43 :: K) s = mreg prog ann 56 (some [2, 11]) [] none [] [qF 160 fun s => loadA true 2 s.m (s.get 11),⟨none, none, .w false none fun s => stA true 2 s.m (s.get 2) (s.get 160)⟩] K s := (den_reg hf _ K s).trans (by kernel_rfl)
theorem ret_eq : den prog ann 56 (.code .ret :: K) s = finM true [fun s => loadA true 2 s.m (s.get 2)] s := (den_ret hf K s).trans (by kernel_rfl)
theorem nil_eq (s : St) : den prog ann 56 [] s = finM true [fun s => loadA true 2 s.m (s.get 2)] s := (den_nil hf s).trans (by kernel_rfl)
theorem inBlock_eq (id : Nat) (K : List Item) (s : St) : den prog ann 56 (.inBlock id :: K) s = den prog ann 56 K s := den_inBlock hf id K s
theorem exit_eq (id : Nat) (K : List Item) (s : St) : den prog ann 56 (.code (.exit id) :: K) s = exitV prog ann 56 (exitTo id K) s := den_exitV hf id K s
theorem call_eq (v0 : AV) (m : Mem) (h : closedL [v0] = true) : denC prog ann 56 [v0] m = (den prog ann 56 [.code b] ⟨[(0, v0)], 161, Mem.empty⟩).bind fun r => some (r.1, m) := (denC_pure hf (b := b) (by kernel_rfl) (by kernel_rfl) (by kernel_rfl) h m).trans (by kernel_rfl)
theorem pure_eq : (ann 56).pure = true := by kernel_rfl
attribute [simp] b_eq r0_eq r1_eq r2_eq r3_eq k0_eq l0_eq r4_eq i0_eq i0t_eq i0e_eq k1_eq r5_eq r6_eq r7_eq k2_eq l2_eq r8_eq i1_eq i1t_eq i1e_eq k3_eq r9_eq r10_eq r11_eq r12_eq r13_eq k4_eq l4_eq r14_eq i2_eq i2t_eq i2e_eq k5_eq r15_eq r16_eq k6_eq l6_eq r17_eq i3_eq i3t_eq i3e_eq k7_eq r18_eq r19_eq k8_eq l8_eq r20_eq i4_eq i4t_eq i4e_eq k9_eq r21_eq r22_eq k10_eq l10_eq r23_eq i5_eq i5t_eq i5e_eq k11_eq r24_eq r25_eq i6_eq i6t_eq r26_eq i6e_eq r27_eq r28_eq r29_eq r30_eq r31_eq r32_eq r33_eq k12_eq l12_eq r34_eq i7_eq i7t_eq i7e_eq k13_eq r36_eq r37_eq k14_eq l14_eq r38_eq i8_eq i8t_eq i8e_eq k15_eq r39_eq r40_eq r41_eq r42_eq r35_eq r43_eq ret_eq nil_eq inBlock_eq exit_eq pure_eq
end
end brand_smallest
namespace r07_reached
noncomputable section
variable (K : List Item) (s : St)
def b : Code := (Try.f66.body).getD .skip
theorem hf : prog.funcs[66]? = some Try.f66 := by kernel_rfl
def r0 := findReg b 0
def r1 := findReg b 1
def r2 := findReg b 2
def k0 := findBlk b 0
def l0 := loopOf k0
def L0 (x1 x4 x5 x6 : AV) (m : Mem) (K : List Item) : Option Res := den prog ann 66 (.code l0 :: .inLoop l0 :: .inBlock 0 :: K) ⟨[(1, x1), (4, x4), (5, x5), (6, x6)], 72, m⟩
def r3 := findReg b 3
def i0 := findCond b 0
def i0t := thenOf i0
def i0e := elseOf i0
def k1 := findBlk b 1
def r5 := findReg b 5
def k2 := findBlk b 2
def l2 := loopOf k2
def L2 (x1 x4 x5 x6 x7 : AV) (m : Mem) (K : List Item) : Option Res := den prog ann 66 (.code l2 :: .inLoop l2 :: .inBlock 2 :: K) ⟨[(1, x1), (4, x4), (5, x5), (6, x6), (7, x7)], 72, m⟩
def r6 := findReg b 6
def i1 := findCond b 1
def i1t := thenOf i1
def i1e := elseOf i1
def k3 := findBlk b 3
def r8 := findReg b 8
def r9 := findReg b 9
def k4 := findBlk b 4
def l4 := loopOf k4
def L4 (x1 x4 x5 x6 x7 x8 x9 x10 : AV) (m : Mem) (K : List Item) : Option Res := den prog ann 66 (.code l4 :: .inLoop l4 :: .inBlock 4 :: K) ⟨[(1, x1), (4, x4), (5, x5), (6, x6), (7, x7), (8, x8), (9, x9), (10, x10)], 72, m⟩
def r10 := findReg b 10
def i2 := findCond b 2
def i2t := thenOf i2
def i2e := elseOf i2
def k5 := findBlk b 5
def r12 := findReg b 12
def r11 := findReg b 11
def r13 := findReg b 13
def i3 := findCond b 3
def i3t := thenOf i3
def i3e := elseOf i3
def r14 := findReg b 14
def r7 := findReg b 7
def r4 := findReg b 4
def r15 := findReg b 15
theorem b_eq : den prog ann 66 (.code b :: K) s = den prog ann 66 (.code r0 :: .code r1 :: .code r2 :: .code k0 :: .code r15 :: .code .ret :: K) s := den_flat hf (l := [r0, r1, r2, k0, r15, .ret]) (by kernel_rfl) K s
theorem r0_eq : den prog ann 66 (.code r0 :: K) s = mreg prog ann 66 none [] none [] [qA 1 frozenPtr 0,qF 2 fun s => some (.nils),qF 3 fun s => some (.nils)] K s := (den_reg hf _ K s).trans (by kernel_rfl)
theorem r1_eq : den prog ann 66 (.code r1 :: K) s = mreg prog ann 66 none [] none [] [⟨some 11, none, .w false none fun s => bslM s.m 1 (bslA 1 1 [.int .i64 0] [(0, (.int .i64 0))])⟩,⟨some 12, none, .w false none fun s => bslM s.m 1 (bslA 1 1 [.str []] [(0, (.str []))])⟩,qC 4 11,qC 5 12] K s := (den_reg hf _ K s).trans (by kernel_rfl)
theorem r2_eq : den prog ann 66 (.code r2 :: K) s = mreg prog ann 66 none [] none [] [qF 6 fun s => some (.int .i64 0)] K s := (den_reg hf _ K s).trans (by kernel_rfl)
theorem k0_eq (K : List Item) (t : List (Nat × AV)) (m : Mem) : den prog ann 66 (.code k0 :: K) ⟨t, 72, m⟩ = L0 (get t 1) (get t 4) (get t 5) (get t 6) m K := den_loop_enter hf (b := l0) (id := 3) (l := [1, 4, 5, 6]) (by kernel_rfl) (by kernel_rfl) (by kernel_rfl) K _
theorem l0_eq (K : List Item) (t : List (Nat × AV)) (m : Mem) : den prog ann 66 (.inLoop l0 :: .inBlock 0 :: K) ⟨t, 72, m⟩ = L0 (get t 1) (get t 4) (get t 5) (get t 6) m K := den_loop_again hf (id := 3) (l := [1, 4, 5, 6]) (by kernel_rfl) (by kernel_rfl) (.inBlock 0 :: K) _
theorem L0_eq (x1 x4 x5 x6 : AV) (m : Mem) (K : List Item) : L0 x1 x4 x5 x6 m K = den prog ann 66 (.code r3 :: .code i0 :: .code k1 :: .code r4 :: .inLoop l0 :: .inBlock 0 :: K) ⟨[(1, x1), (4, x4), (5, x5), (6, x6)], 72, m⟩ := den_flat hf (l := [r3, i0, k1, r4]) (by kernel_rfl) _ _
theorem r3_eq : den prog ann 66 (.code r3 :: K) s = mreg prog ann 66 (some [1, 4, 5, 6]) [] none [] [qC 13 6,qC 14 4,qA 15 lenSl 14,qB 16 (binA prog .lss 3) 13 15] K s := (den_reg hf _ K s).trans (by kernel_rfl)
theorem i0_eq : den prog ann 66 (.code i0 :: K) s = ifV prog ann 66 16 i0t i0e K s (s.get 16) := den_if hf (by kernel_rfl) K s
theorem i0t_eq : den prog ann 66 (.code i0t :: K) s = den prog ann 66 (K) s := den_flat hf (l := []) (by kernel_rfl) K s
theorem i0e_eq : den prog ann 66 (.code i0e :: K) s = den prog ann 66 (.code (.exit 0) :: K) s := den_flat hf (l := [(.exit 0)]) (by kernel_rfl) K s
theorem k1_eq : den prog ann 66 (.code k1 :: K) s = den prog ann 66 (.code r5 :: .code k2 :: .inBlock 1 :: K) s := den_blk hf (b := blkOf k1) (l := [r5, k2]) (by kernel_rfl) (by kernel_rfl) K s
theorem r5_eq : den prog ann 66 (.code r5 :: K) s = mreg prog ann 66 none [] none [] [qF 7 fun s => some (.int .i64 0)] K s := (den_reg hf _ K s).trans (by kernel_rfl)
theorem k2_eq (K : List Item) (t : List (Nat × AV)) (m : Mem) : den prog ann 66 (.code k2 :: K) ⟨t, 72, m⟩ = L2 (get t 1) (get t 4) (get t 5) (get t 6) (get t 7) m K := den_loop_enter hf (b := l2) (id := 6) (l := [1, 4, 5, 6, 7]) (by kernel_rfl) (by kernel_rfl) (by kernel_rfl) K _
theorem l2_eq (K : List Item) (t : List (Nat × AV)) (m : Mem) : den prog ann 66 (.inLoop l2 :: .inBlock 2 :: K) ⟨t, 72, m⟩ = L2 (get t 1) (get t 4) (get t 5) (get t 6) (get t 7) m K := den_loop_again hf (id := 6) (l := [1, 4, 5, 6, 7]) (by kernel_rfl) (by kernel_rfl) (.inBlock 2 :: K) _
theorem L2_eq (x1 x4 x5 x6 x7 : AV) (m : Mem) (K : List Item) : L2 x1 x4 x5 x6 x7 m K = den prog ann 66 (.code r6 :: .code i1 :: .code k3 :: .code r7 :: .inLoop l2 :: .inBlock 2 :: K) ⟨[(1, x1), (4, x4), (5, x5), (6, x6), (7, x7)], 72, m⟩ := den_flat hf (l := [r6, i1, k3, r7]) (by kernel_rfl) _ _
theorem r6_eq : den prog ann 66 (.code r6 :: K) s = mreg prog ann 66 (some [1, 4, 5, 6, 7]) [] none [] [qC 19 7,qA 20 (fieldA 0) 1,qA 21 (loadF false 1) 20,qF 22 fun s => idxSl 1 (s.get 21) (.int .i64 0),qA 23 (loadF false 1) 22,qA 24 lenSl 23,qB 25 (binA prog .lss 3) 19 24] K s := (den_reg hf _ K s).trans (by kernel_rfl)
theorem i1_eq : den prog ann 66 (.code i1 :: K) s = ifV prog ann 66 25 i1t i1e K s (s.get 25) := den_if hf (by kernel_rfl) K s
theorem i1t_eq : den prog ann 66 (.code i1t :: K) s = den prog ann 66 (K) s := den_flat hf (l := []) (by kernel_rfl) K s
theorem i1e_eq : den prog ann 66 (.code i1e :: K) s = den prog ann 66 (.code (.exit 2) :: K) s := den_flat hf (l := [(.exit 2)]) (by kernel_rfl) K s
theorem k3_eq : den prog ann 66 (.code k3 :: K) s = den prog ann 66 (.code r8 :: .code r9 :: .code k4 :: .code r13 :: .code i3 :: .inBlock 3 :: K) s := den_blk hf (b := blkOf k3) (l := [r8, r9, k4, r13, i3]) (by kernel_rfl) (by kernel_rfl) K s
theorem r8_draw : drawOk (fun g => (ann g).pure) (modeOf (ann 66) (idOf r8)) (frzOf (ann 66) (idOf r8)) (opsOf r8) = true := drawOk_of (an := [0, 1, 0, 0, 12, 28, 63, 127, 0, 511, 1023, 2047, 4095]) (by kernel_rfl) (by kernel_rfl)
theorem r8_eq : den prog ann 66 (.code r8 :: K) s = mreg prog ann 66 none [] (some 13) [] [qA 28 (fieldA 0) 1,qA 29 (loadF false 1) 28,qC 30 4,qC 31 6,qB 32 (idxSl 1) 30 31,qF 33 fun s => loadA false 1 s.m (s.get 32),qB 34 (idxSl 1) 29 33,qA 35 (loadF false 1) 34,qC 36 7,qB 37 (idxSl 1) 35 36,qA 38 (loadF false 1) 37,qC 8 38,qF 9 fun s => some (.bool false)] K s := (den_regD hf r8_draw K s).trans (by kernel_rfl)
theorem r9_eq : den prog ann 66 (.code r9 :: K) s = mreg prog ann 66 none [] none [] [qF 10 fun s => some (.int .i64 0)] K s := (den_reg hf _ K s).trans (by kernel_rfl)
theorem k4_eq (K : List Item) (t : List (Nat × AV)) (m : Mem) : den prog ann 66 (.code k4 :: K) ⟨t, 72, m⟩ = L4 (get t 1) (get t 4) (get t 5) (get t 6) (get t 7) (get t 8) (get t 9) (get t 10) m K := den_loop_enter hf (b := l4) (id := 10) (l := [1, 4, 5, 6, 7, 8, 9, 10]) (by kernel_rfl) (by kernel_rfl) (by kernel_rfl) K _
theorem l4_eq (K : List Item) (t : List (Nat × AV)) (m : Mem) : den prog ann 66 (.inLoop l4 :: .inBlock 4 :: K) ⟨t, 72, m⟩ = L4 (get t 1) (get t 4) (get t 5) (get t 6) (get t 7) (get t 8) (get t 9) (get t 10) m K := den_loop_again hf (id := 10) (l := [1, 4, 5, 6, 7, 8, 9, 10]) (by kernel_rfl) (by kernel_rfl) (.inBlock 4 :: K) _
theorem L4_eq (x1 x4 x5 x6 x7 x8 x9 x10 : AV) (m : Mem) (K : List Item) : L4 x1 x4 x5 x6 x7 x8 x9 x10 m K = den prog ann 66 (.code r10 :: .code i2 :: .code k5 :: .code r11 :: .inLoop l4 :: .inBlock 4 :: K) ⟨[(1, x1), (4, x4), (5, x5), (6, x6), (7, x7), (8, x8), (9, x9), (10, x10)], 72, m⟩ := den_flat hf (l := [r10, i2, k5, r11]) (by kernel_rfl) _ _
theorem r10_eq : den prog ann 66 (.code r10 :: K) s = mreg prog ann 66 (some [1, 4, 5, 6, 7, 8, 9, 10]) [] none [] [qC 39 10,qC 40 4,qA 41 lenSl 40,qB 42 (binA prog .lss 3) 39 41] K s := (den_reg hf _ K s).trans (by kernel_rfl)
theorem i2_eq : den prog ann 66 (.code i2 :: K) s = ifV prog ann 66 42 i2t i2e K s (s.get 42) := den_if hf (by kernel_rfl) K s
theorem i2t_eq : den prog ann 66 (.code i2t :: K) s = den prog ann 66 (K) s := den_flat hf (l := []) (by kernel_rfl) K s
theorem i2e_eq : den prog ann 66 (.code i2e :: K) s = den prog ann 66 (.code (.exit 4) :: K) s := den_flat hf (l := [(.exit 4)]) (by kernel_rfl) K s
theorem k5_eq : den prog ann 66 (.code k5 :: K) s = den prog ann 66 (.code r12 :: .inBlock 5 :: K) s := den_blk hf (b := blkOf k5) (l := [r12]) (by kernel_rfl) (by kernel_rfl) K s
theorem r12_eq : den prog ann 66 (.code r12 :: K) s = mreg prog ann 66 none [] none [] [qC 45 9,qC 46 45,⟨some 47, some (46, false), .v fun s => some (s.get 4)⟩,⟨some 48, some (46, false), .v fun s => some (s.get 10)⟩,⟨some 49, some (46, false), .v fun s => idxSl 1 (s.get 47) (s.get 48)⟩,⟨some 50, some (46, false), .v fun s => loadA false 1 s.m (s.get 49)⟩,⟨some 51, some (46, false), .v fun s => some (s.get 8)⟩,⟨some 52, some (46, false), .v fun s => binA prog .eql 3 (s.get 50) (s.get 51)⟩,qF 53 fun s => pickA (s.get 46) (.bool true) (s.get 52),qC 9 53] K s := (den_reg hf _ K s).trans (by kernel_rfl)
theorem r11_eq : den prog ann 66 (.code r11 :: K) s = mreg prog ann 66 (some [1, 4, 5, 6, 7, 8, 9, 10]) [] none [] [qC 43 10,qF 44 fun s => binA prog .add 3 (s.get 43) (.int .i64 1),qC 10 44] K s := (den_reg hf _ K s).trans (by kernel_rfl)
theorem r13_eq : den prog ann 66 (.code r13 :: K) s = mreg prog ann 66 (some [1, 4, 5, 6, 7, 8, 9]) [] none [] [qC 54 9,qA 55 (unA .not) 54] K s := (den_reg hf _ K s).trans (by kernel_rfl)
theorem i3_eq : den prog ann 66 (.code i3 :: K) s = ifV prog ann 66 55 i3t i3e K s (s.get 55) := den_if hf (by kernel_rfl) K s
theorem i3t_eq : den prog ann 66 (.code i3t :: K) s = den prog ann 66 (.code r14 :: K) s := den_flat hf (l := [r14]) (by kernel_rfl) K s
theorem r14_draw : drawOk (fun g => (ann g).pure) (modeOf (ann 66) (idOf r14)) (frzOf (ann 66) (idOf r14)) (opsOf r14) = true := drawOk_of (an := [0, 0, 2, 7, 0, 0, 0, 96, 224, 0, 527, 2031, 4079, 8191, 16383, 32767]) (by kernel_rfl) (by kernel_rfl)
theorem r14_eq : den prog ann 66 (.code r14 :: K) s = mreg prog ann 66 none [] (some 16) [3056063, 2000058] [qC 56 4,qC 57 8,qF 58 fun s => bslF 1 (bslA 1 1 [.int .i64 0] [(0, (s.get 57))]),⟨some 59, none, .w false (some 3) fun s => appendA 1 8 s.m (s.get 56) (s.get 58)⟩,qC 60 5,qC 61 5,qC 62 6,qB 63 (idxSl 1) 61 62,qF 64 fun s => loadA false 1 s.m (s.get 63),qC 65 7,⟨some 66, none, .c 0 (fun s => (.fn 64 [] [])) fun s => [(s.get 65)]⟩,qB 67 (binA prog .add 9) 64 66,qF 68 fun s => bslF 1 (bslA 1 1 [.str []] [(0, (s.get 67))]),⟨some 69, none, .w false (some 13) fun s => appendA 1 16 s.m (s.get 60) (s.get 68)⟩,qC 4 59,qC 5 69] K s := (den_regD hf r14_draw K s).trans (by kernel_rfl)
theorem i3e_eq : den prog ann 66 (.code i3e :: K) s = den prog ann 66 (K) s := den_flat hf (l := []) (by kernel_rfl) K s
theorem r7_eq : den prog ann 66 (.code r7 :: K) s = mreg prog ann 66 (some [1, 4, 5, 6, 7]) [] none [] [qC 26 7,qF 27 fun s => binA prog .add 3 (s.get 26) (.int .i64 1),qC 7 27] K s := (den_reg hf _ K s).trans (by kernel_rfl)
theorem r4_eq : den prog ann 66 (.code r4 :: K) s = mreg prog ann 66 (some [1, 4, 5, 6]) [] none [] [qC 17 6,qF 18 fun s => binA prog .add 3 (s.get 17) (.int .i64 1),qC 6 18] K s := (den_reg hf _ K s).trans (by kernel_rfl)
theorem r15_eq : den prog ann 66 (.code r15 :: K) s = mreg prog ann 66 (some [4, 5]) [] none [] [qC 70 4,qC 71 5,qC 2 70,qC 3 71] K s := (den_reg hf _ K s).trans (by kernel_rfl)
theorem ret_eq : den prog ann 66 (.code .ret :: K) s = finM true [fun s => some (s.get 2), fun s => some (s.get 3)] s := (den_ret hf K s).trans (by kernel_rfl)
theorem nil_eq (s : St) : den prog ann 66 [] s = finM true [fun s => some (s.get 2), fun s => some (s.get 3)] s := (den_nil hf s).trans (by kernel_rfl)
theorem inBlock_eq (id : Nat) (K : List Item) (s : St) : den prog ann 66 (.inBlock id :: K) s = den prog ann 66 K s := den_inBlock hf id K s
theorem exit_eq (id : Nat) (K : List Item) (s : St) : den prog ann 66 (.code (.exit id) :: K) s = exitV prog ann 66 (exitTo id K) s := den_exitV hf id K s
theorem call_eq (v0 : AV) (m : Mem) (h : closedL [v0] = true) : denC prog ann 66 [v0] m = (den prog ann 66 [.code b] ⟨[(0, v0)], 72, Mem.empty⟩).bind fun r => some (r.1, m) := (denC_pure hf (b := b) (by kernel_rfl) (by kernel_rfl) (by kernel_rfl) h m).trans (by kernel_rfl)
theorem pure_eq : (ann 66).pure = true := by kernel_rfl
attribute [simp] b_eq r0_eq r1_eq r2_eq k0_eq l0_eq r3_eq i0_eq i0t_eq i0e_eq k1_eq r5_eq k2_eq l2_eq r6_eq i1_eq i1t_eq i1e_eq k3_eq r8_eq r9_eq k4_eq l4_eq r10_eq i2_eq i2t_eq i2e_eq k5_eq r12_eq r11_eq r13_eq i3_eq i3t_eq r14_eq i3e_eq r7_eq r4_eq r15_eq ret_eq nil_eq inBlock_eq exit_eq pure_eq
end
end r07_reached
namespace r07_alike
noncomputable section
variable (K : List Item) (s : St)
def b : Code := (Try.f67.body).getD .skip
theorem hf : prog.funcs[67]? = some Try.f67 := by kernel_rfl
def r0 := findReg b 0
def r1 := findReg b 1
def r2 := findReg b 2
def r3 := findReg b 3
def k0 := findBlk b 0
def l0 := loopOf k0
def L0 (x1 x3 x4 x5 : AV) (m : Mem) (K : List Item) : Option Res := den prog ann 67 (.code l0 :: .inLoop l0 :: .inBlock 0 :: K) ⟨[(1, x1), (3, x3), (4, x4), (5, x5)], 109, m⟩
def r4 := findReg b 4
def i0 := findCond b 0
def i0t := thenOf i0
def i0e := elseOf i0
def k1 := findBlk b 1
def r6 := findReg b 6
def r7 := findReg b 7
def k2 := findBlk b 2
def l2 := loopOf k2
def L2 (x1 x3 x4 x5 x6 x7 : AV) (m : Mem) (K : List Item) : Option Res := den prog ann 67 (.code l2 :: .inLoop l2 :: .inBlock 2 :: K) ⟨[(1, x1), (3, x3), (4, x4), (5, x5), (6, x6), (7, x7)], 109, m⟩
def r8 := findReg b 8
def i1 := findCond b 1
def i1t := thenOf i1
def i1e := elseOf i1
def k3 := findBlk b 3
def r10 := findReg b 10
def r9 := findReg b 9
def r11 := findReg b 11
def r5 := findReg b 5
def r12 := findReg b 12
def k4 := findBlk b 4
def l4 := loopOf k4
def L4 (x1 x3 x4 x8 : AV) (m : Mem) (K : List Item) : Option Res := den prog ann 67 (.code l4 :: .inLoop l4 :: .inBlock 4 :: K) ⟨[(1, x1), (3, x3), (4, x4), (8, x8)], 109, m⟩
def r13 := findReg b 13
def i2 := findCond b 2
def i2t := thenOf i2
def i2e := elseOf i2
def k5 := findBlk b 5
def r15 := findReg b 15
def k6 := findBlk b 6
def l6 := loopOf k6
def L6 (x1 x3 x4 x8 x9 : AV) (m : Mem) (K : List Item) : Option Res := den prog ann 67 (.code l6 :: .inLoop l6 :: .inBlock 6 :: K) ⟨[(1, x1), (3, x3), (4, x4), (8, x8), (9, x9)], 109, m⟩
def r16 := findReg b 16
def i3 := findCond b 3
def i3t := thenOf i3
def i3e := elseOf i3
def k7 := findBlk b 7
def r18 := findReg b 18
def k8 := findBlk b 8
def l8 := loopOf k8
def L8 (x1 x3 x4 x8 x9 x10 : AV) (m : Mem) (K : List Item) : Option Res := den prog ann 67 (.code l8 :: .inLoop l8 :: .inBlock 8 :: K) ⟨[(1, x1), (3, x3), (4, x4), (8, x8), (9, x9), (10, x10)], 109, m⟩
def r19 := findReg b 19
def i4 := findCond b 4
def i4t := thenOf i4
def i4e := elseOf i4
def k9 := findBlk b 9
def r21 := findReg b 21
def k10 := findBlk b 10
def l10 := loopOf k10
def L10 (x1 x3 x4 x8 x9 x10 x11 : AV) (m : Mem) (K : List Item) : Option Res := den prog ann 67 (.code l10 :: .inLoop l10 :: .inBlock 10 :: K) ⟨[(1, x1), (3, x3), (4, x4), (8, x8), (9, x9), (10, x10), (11, x11)], 109, m⟩
def r22 := findReg b 22
def i5 := findCond b 5
def i5t := thenOf i5
def i5e := elseOf i5
def k11 := findBlk b 11
def r24 := findReg b 24
def r23 := findReg b 23
def r20 := findReg b 20
def r17 := findReg b 17
def r14 := findReg b 14
def r25 := findReg b 25
theorem b_eq : den prog ann 67 (.code b :: K) s = den prog ann 67 (.code r0 :: .code r1 :: .code r2 :: .code r3 :: .code k0 :: .code r12 :: .code k4 :: .code r25 :: .code .ret :: K) s := den_flat hf (l := [r0, r1, r2, r3, k0, r12, k4, r25, .ret]) (by kernel_rfl) K s
theorem r0_eq : den prog ann 67 (.code r0 :: K) s = mreg prog ann 67 none [] none [] [qA 1 frozenPtr 0,qF 2 fun s => some (.nils)] K s := (den_reg hf _ K s).trans (by kernel_rfl)
theorem r1_eq : den prog ann 67 (.code r1 :: K) s = mreg prog ann 67 none [] none [] [qA 12 (fieldA 0) 1,qA 13 (loadF false 1) 12,qA 14 lenSl 13,qC 3 14] K s := (den_reg hf _ K s).trans (by kernel_rfl)
theorem r2_eq : den prog ann 67 (.code r2 :: K) s = mreg prog ann 67 none [] none [] [⟨some 15, none, .w false none fun s => bslM s.m 0 (bslA 1 0 [.nils] [])⟩,qC 4 15] K s := (den_reg hf _ K s).trans (by kernel_rfl)
theorem r3_eq : den prog ann 67 (.code r3 :: K) s = mreg prog ann 67 none [] none [] [qF 5 fun s => some (.int .i64 0)] K s := (den_reg hf _ K s).trans (by kernel_rfl)
theorem k0_eq (K : List Item) (t : List (Nat × AV)) (m : Mem) : den prog ann 67 (.code k0 :: K) ⟨t, 109, m⟩ = L0 (get t 1) (get t 3) (get t 4) (get t 5) m K := den_loop_enter hf (b := l0) (id := 4) (l := [1, 3, 4, 5]) (by kernel_rfl) (by kernel_rfl) (by kernel_rfl) K _
theorem l0_eq (K : List Item) (t : List (Nat × AV)) (m : Mem) : den prog ann 67 (.inLoop l0 :: .inBlock 0 :: K) ⟨t, 109, m⟩ = L0 (get t 1) (get t 3) (get t 4) (get t 5) m K := den_loop_again hf (id := 4) (l := [1, 3, 4, 5]) (by kernel_rfl) (by kernel_rfl) (.inBlock 0 :: K) _
theorem L0_eq (x1 x3 x4 x5 : AV) (m : Mem) (K : List Item) : L0 x1 x3 x4 x5 m K = den prog ann 67 (.code r4 :: .code i0 :: .code k1 :: .code r5 :: .inLoop l0 :: .inBlock 0 :: K) ⟨[(1, x1), (3, x3), (4, x4), (5, x5)], 109, m⟩ := den_flat hf (l := [r4, i0, k1, r5]) (by kernel_rfl) _ _
theorem r4_eq : den prog ann 67 (.code r4 :: K) s = mreg prog ann 67 (some [1, 3, 4, 5]) [] none [] [qC 16 5,qC 17 3,qB 18 (binA prog .lss 3) 16 17] K s := (den_reg hf _ K s).trans (by kernel_rfl)
theorem i0_eq : den prog ann 67 (.code i0 :: K) s = ifV prog ann 67 18 i0t i0e K s (s.get 18) := den_if hf (by kernel_rfl) K s
theorem i0t_eq : den prog ann 67 (.code i0t :: K) s = den prog ann 67 (K) s := den_flat hf (l := []) (by kernel_rfl) K s
theorem i0e_eq : den prog ann 67 (.code i0e :: K) s = den prog ann 67 (.code (.exit 0) :: K) s := den_flat hf (l := [(.exit 0)]) (by kernel_rfl) K s
theorem k1_eq : den prog ann 67 (.code k1 :: K) s = den prog ann 67 (.code r6 :: .code r7 :: .code k2 :: .code r11 :: .inBlock 1 :: K) s := den_blk hf (b := blkOf k1) (l := [r6, r7, k2, r11]) (by kernel_rfl) (by kernel_rfl) K s
theorem r6_eq : den prog ann 67 (.code r6 :: K) s = mreg prog ann 67 none [] none [] [⟨some 21, none, .w false none fun s => bslM s.m 0 (bslA 1 0 [.bool false] [])⟩,qC 6 21] K s := (den_reg hf _ K s).trans (by kernel_rfl)
theorem r7_eq : den prog ann 67 (.code r7 :: K) s = mreg prog ann 67 none [] none [] [qF 7 fun s => some (.int .i64 0)] K s := (den_reg hf _ K s).trans (by kernel_rfl)
theorem k2_eq (K : List Item) (t : List (Nat × AV)) (m : Mem) : den prog ann 67 (.code k2 :: K) ⟨t, 109, m⟩ = L2 (get t 1) (get t 3) (get t 4) (get t 5) (get t 6) (get t 7) m K := den_loop_enter hf (b := l2) (id := 8) (l := [1, 3, 4, 5, 6, 7]) (by kernel_rfl) (by kernel_rfl) (by kernel_rfl) K _
theorem l2_eq (K : List Item) (t : List (Nat × AV)) (m : Mem) : den prog ann 67 (.inLoop l2 :: .inBlock 2 :: K) ⟨t, 109, m⟩ = L2 (get t 1) (get t 3) (get t 4) (get t 5) (get t 6) (get t 7) m K := den_loop_again hf (id := 8) (l := [1, 3, 4, 5, 6, 7]) (by kernel_rfl) (by kernel_rfl) (.inBlock 2 :: K) _
theorem L2_eq (x1 x3 x4 x5 x6 x7 : AV) (m : Mem) (K : List Item) : L2 x1 x3 x4 x5 x6 x7 m K = den prog ann 67 (.code r8 :: .code i1 :: .code k3 :: .code r9 :: .inLoop l2 :: .inBlock 2 :: K) ⟨[(1, x1), (3, x3), (4, x4), (5, x5), (6, x6), (7, x7)], 109, m⟩ := den_flat hf (l := [r8, i1, k3, r9]) (by kernel_rfl) _ _
theorem r8_eq : den prog ann 67 (.code r8 :: K) s = mreg prog ann 67 (some [1, 3, 4, 5, 6, 7]) [] none [] [qC 22 7,qC 23 3,qB 24 (binA prog .lss 3) 22 23] K s := (den_reg hf _ K s).trans (by kernel_rfl)
theorem i1_eq : den prog ann 67 (.code i1 :: K) s = ifV prog ann 67 24 i1t i1e K s (s.get 24) := den_if hf (by kernel_rfl) K s
theorem i1t_eq : den prog ann 67 (.code i1t :: K) s = den prog ann 67 (K) s := den_flat hf (l := []) (by kernel_rfl) K s
theorem i1e_eq : den prog ann 67 (.code i1e :: K) s = den prog ann 67 (.code (.exit 2) :: K) s := den_flat hf (l := [(.exit 2)]) (by kernel_rfl) K s
theorem k3_eq : den prog ann 67 (.code k3 :: K) s = den prog ann 67 (.code r10 :: .inBlock 3 :: K) s := den_blk hf (b := blkOf k3) (l := [r10]) (by kernel_rfl) (by kernel_rfl) K s
theorem r10_draw : drawOk (fun g => (ann g).pure) (modeOf (ann 67) (idOf r10)) (frzOf (ann 67) (idOf r10)) (opsOf r10) = true := drawOk_of (an := [0, 0, 2, 0, 14, 30, 0, 64, 0, 448, 960, 2046, 4094, 8191, 16383]) (by kernel_rfl) (by kernel_rfl)
theorem r10_eq : den prog ann 67 (.code r10 :: K) s = mreg prog ann 67 none [] (some 15) [] [qC 27 6,qA 28 (fieldA 1) 1,qA 29 (loadF false 1) 28,qC 30 5,qB 31 (idxSl 1) 29 30,qA 32 (loadF false 1) 31,qA 33 (fieldA 1) 1,qA 34 (loadF false 1) 33,qC 35 7,qB 36 (idxSl 1) 34 35,qA 37 (loadF false 1) 36,qB 38 (binA prog .eql 4) 32 37,qF 39 fun s => bslF 1 (bslA 1 1 [.bool false] [(0, (s.get 38))]),⟨some 40, none, .w false (some 13) fun s => appendA 1 1 s.m (s.get 27) (s.get 39)⟩,qC 6 40] K s := (den_regD hf r10_draw K s).trans (by kernel_rfl)
theorem r9_eq : den prog ann 67 (.code r9 :: K) s = mreg prog ann 67 (some [1, 3, 4, 5, 6, 7]) [] none [] [qC 25 7,qF 26 fun s => binA prog .add 3 (s.get 25) (.int .i64 1),qC 7 26] K s := (den_reg hf _ K s).trans (by kernel_rfl)
theorem r11_eq : den prog ann 67 (.code r11 :: K) s = mreg prog ann 67 (some [1, 3, 4, 5, 6]) [] none [] [qC 41 4,qC 42 6,⟨some 43, none, .w false none fun s => bslM s.m 1 (bslA 1 1 [.nils] [(0, (s.get 42))])⟩,⟨some 44, none, .w false none fun s => appendA 1 24 s.m (s.get 41) (s.get 43)⟩,qC 4 44] K s := (den_reg hf _ K s).trans (by kernel_rfl)
theorem r5_eq : den prog ann 67 (.code r5 :: K) s = mreg prog ann 67 (some [1, 3, 4, 5]) [] none [] [qC 19 5,qF 20 fun s => binA prog .add 3 (s.get 19) (.int .i64 1),qC 5 20] K s := (den_reg hf _ K s).trans (by kernel_rfl)
theorem r12_eq : den prog ann 67 (.code r12 :: K) s = mreg prog ann 67 (some [1, 3, 4]) [] none [] [qF 8 fun s => some (.int .i64 0)] K s := (den_reg hf _ K s).trans (by kernel_rfl)
theorem k4_eq (K : List Item) (t : List (Nat × AV)) (m : Mem) : den prog ann 67 (.code k4 :: K) ⟨t, 109, m⟩ = L4 (get t 1) (get t 3) (get t 4) (get t 8) m K := den_loop_enter hf (b := l4) (id := 13) (l := [1, 3, 4, 8]) (by kernel_rfl) (by kernel_rfl) (by kernel_rfl) K _
theorem l4_eq (K : List Item) (t : List (Nat × AV)) (m : Mem) : den prog ann 67 (.inLoop l4 :: .inBlock 4 :: K) ⟨t, 109, m⟩ = L4 (get t 1) (get t 3) (get t 4) (get t 8) m K := den_loop_again hf (id := 13) (l := [1, 3, 4, 8]) (by kernel_rfl) (by kernel_rfl) (.inBlock 4 :: K) _
theorem L4_eq (x1 x3 x4 x8 : AV) (m : Mem) (K : List Item) : L4 x1 x3 x4 x8 m K = den prog ann 67 (.code r13 :: .code i2 :: .code k5 :: .code r14 :: .inLoop l4 :: .inBlock 4 :: K) ⟨[(1, x1), (3, x3), (4, x4), (8, x8)], 109, m⟩ := den_flat hf (l := [r13, i2, k5, r14]) (by kernel_rfl) _ _
theorem r13_eq : den prog ann 67 (.code r13 :: K) s = mreg prog ann 67 (some [1, 3, 4, 8]) [] none [] [qC 45 8,qC 46 3,qC 47 3,qB 48 (binA prog .mul 3) 46 47,qB 49 (binA prog .lss 3) 45 48] K s := (den_reg hf _ K s).trans (by kernel_rfl)
theorem i2_eq : den prog ann 67 (.code i2 :: K) s = ifV prog ann 67 49 i2t i2e K s (s.get 49) := den_if hf (by kernel_rfl) K s
theorem i2t_eq : den prog ann 67 (.code i2t :: K) s = den prog ann 67 (K) s := den_flat hf (l := []) (by kernel_rfl) K s
theorem i2e_eq : den prog ann 67 (.code i2e :: K) s = den prog ann 67 (.code (.exit 4) :: K) s := den_flat hf (l := [(.exit 4)]) (by kernel_rfl) K s
theorem k5_eq : den prog ann 67 (.code k5 :: K) s = den prog ann 67 (.code r15 :: .code k6 :: .inBlock 5 :: K) s := den_blk hf (b := blkOf k5) (l := [r15, k6]) (by kernel_rfl) (by kernel_rfl) K s
theorem r15_eq : den prog ann 67 (.code r15 :: K) s = mreg prog ann 67 none [] none [] [qF 9 fun s => some (.int .i64 0)] K s := (den_reg hf _ K s).trans (by kernel_rfl)
theorem k6_eq (K : List Item) (t : List (Nat × AV)) (m : Mem) : den prog ann 67 (.code k6 :: K) ⟨t, 109, m⟩ = L6 (get t 1) (get t 3) (get t 4) (get t 8) (get t 9) m K := den_loop_enter hf (b := l6) (id := 16) (l := [1, 3, 4, 8, 9]) (by kernel_rfl) (by kernel_rfl) (by kernel_rfl) K _
theorem l6_eq (K : List Item) (t : List (Nat × AV)) (m : Mem) : den prog ann 67 (.inLoop l6 :: .inBlock 6 :: K) ⟨t, 109, m⟩ = L6 (get t 1) (get t 3) (get t 4) (get t 8) (get t 9) m K := den_loop_again hf (id := 16) (l := [1, 3, 4, 8, 9]) (by kernel_rfl) (by kernel_rfl) (.inBlock 6 :: K) _
theorem L6_eq (x1 x3 x4 x8 x9 : AV) (m : Mem) (K : List Item) : L6 x1 x3 x4 x8 x9 m K = den prog ann 67 (.code r16 :: .code i3 :: .code k7 :: .code r17 :: .inLoop l6 :: .inBlock 6 :: K) ⟨[(1, x1), (3, x3), (4, x4), (8, x8), (9, x9)], 109, m⟩ := den_flat hf (l := [r16, i3, k7, r17]) (by kernel_rfl) _ _
theorem r16_eq : den prog ann 67 (.code r16 :: K) s = mreg prog ann 67 (some [1, 3, 4, 8, 9]) [] none [] [qC 52 9,qC 53 3,qB 54 (binA prog .lss 3) 52 53] K s := (den_reg hf _ K s).trans (by kernel_rfl)
theorem i3_eq : den prog ann 67 (.code i3 :: K) s = ifV prog ann 67 54 i3t i3e K s (s.get 54) := den_if hf (by kernel_rfl) K s
theorem i3t_eq : den prog ann 67 (.code i3t :: K) s = den prog ann 67 (K) s := den_flat hf (l := []) (by kernel_rfl) K s
theorem i3e_eq : den prog ann 67 (.code i3e :: K) s = den prog ann 67 (.code (.exit 6) :: K) s := den_flat hf (l := [(.exit 6)]) (by kernel_rfl) K s
theorem k7_eq : den prog ann 67 (.code k7 :: K) s = den prog ann 67 (.code r18 :: .code k8 :: .inBlock 7 :: K) s := den_blk hf (b := blkOf k7) (l := [r18, k8]) (by kernel_rfl) (by kernel_rfl) K s
theorem r18_eq : den prog ann 67 (.code r18 :: K) s = mreg prog ann 67 none [] none [] [qF 10 fun s => some (.int .i64 0)] K s := (den_reg hf _ K s).trans (by kernel_rfl)
theorem k8_eq (K : List Item) (t : List (Nat × AV)) (m : Mem) : den prog ann 67 (.code k8 :: K) ⟨t, 109, m⟩ = L8 (get t 1) (get t 3) (get t 4) (get t 8) (get t 9) (get t 10) m K := den_loop_enter hf (b := l8) (id := 19) (l := [1, 3, 4, 8, 9, 10]) (by kernel_rfl) (by kernel_rfl) (by kernel_rfl) K _
theorem l8_eq (K : List Item) (t : List (Nat × AV)) (m : Mem) : den prog ann 67 (.inLoop l8 :: .inBlock 8 :: K) ⟨t, 109, m⟩ = L8 (get t 1) (get t 3) (get t 4) (get t 8) (get t 9) (get t 10) m K := den_loop_again hf (id := 19) (l := [1, 3, 4, 8, 9, 10]) (by kernel_rfl) (by kernel_rfl) (.inBlock 8 :: K) _
theorem L8_eq (x1 x3 x4 x8 x9 x10 : AV) (m : Mem) (K : List Item) : L8 x1 x3 x4 x8 x9 x10 m K = den prog ann 67 (.code r19 :: .code i4 :: .code k9 :: .code r20 :: .inLoop l8 :: .inBlock 8 :: K) ⟨[(1, x1), (3, x3), (4, x4), (8, x8), (9, x9), (10, x10)], 109, m⟩ := den_flat hf (l := [r19, i4, k9, r20]) (by kernel_rfl) _ _
theorem r19_eq : den prog ann 67 (.code r19 :: K) s = mreg prog ann 67 (some [1, 3, 4, 8, 9, 10]) [] none [] [qC 57 10,qC 58 3,qB 59 (binA prog .lss 3) 57 58] K s := (den_reg hf _ K s).trans (by kernel_rfl)
theorem i4_eq : den prog ann 67 (.code i4 :: K) s = ifV prog ann 67 59 i4t i4e K s (s.get 59) := den_if hf (by kernel_rfl) K s
theorem i4t_eq : den prog ann 67 (.code i4t :: K) s = den prog ann 67 (K) s := den_flat hf (l := []) (by kernel_rfl) K s
theorem i4e_eq : den prog ann 67 (.code i4e :: K) s = den prog ann 67 (.code (.exit 8) :: K) s := den_flat hf (l := [(.exit 8)]) (by kernel_rfl) K s
theorem k9_eq : den prog ann 67 (.code k9 :: K) s = den prog ann 67 (.code r21 :: .code k10 :: .inBlock 9 :: K) s := den_blk hf (b := blkOf k9) (l := [r21, k10]) (by kernel_rfl) (by kernel_rfl) K s
theorem r21_eq : den prog ann 67 (.code r21 :: K) s = mreg prog ann 67 none [] none [] [qF 11 fun s => some (.int .i64 0)] K s := (den_reg hf _ K s).trans (by kernel_rfl)
theorem k10_eq (K : List Item) (t : List (Nat × AV)) (m : Mem) : den prog ann 67 (.code k10 :: K) ⟨t, 109, m⟩ = L10 (get t 1) (get t 3) (get t 4) (get t 8) (get t 9) (get t 10) (get t 11) m K := den_loop_enter hf (b := l10) (id := 22) (l := [1, 3, 4, 8, 9, 10, 11]) (by kernel_rfl) (by kernel_rfl) (by kernel_rfl) K _
theorem l10_eq (K : List Item) (t : List (Nat × AV)) (m : Mem) : den prog ann 67 (.inLoop l10 :: .inBlock 10 :: K) ⟨t, 109, m⟩ = L10 (get t 1) (get t 3) (get t 4) (get t 8) (get t 9) (get t 10) (get t 11) m K := den_loop_again hf (id := 22) (l := [1, 3, 4, 8, 9, 10, 11]) (by kernel_rfl) (by kernel_rfl) (.inBlock 10 :: K) _
theorem L10_eq (x1 x3 x4 x8 x9 x10 x11 : AV) (m : Mem) (K : List Item) : L10 x1 x3 x4 x8 x9 x10 x11 m K = den prog ann 67 (.code r22 :: .code i5 :: .code k11 :: .code r23 :: .inLoop l10 :: .inBlock 10 :: K) ⟨[(1, x1), (3, x3), (4, x4), (8, x8), (9, x9), (10, x10), (11, x11)], 109, m⟩ := den_flat hf (l := [r22, i5, k11, r23]) (by kernel_rfl) _ _
theorem r22_eq : den prog ann 67 (.code r22 :: K) s = mreg prog ann 67 (some [1, 3, 4, 8, 9, 10, 11]) [] none [] [qC 62 11,qA 63 (fieldA 0) 1,qA 64 (loadF false 1) 63,qC 65 9,qB 66 (idxSl 1) 64 65,qA 67 (loadF false 1) 66,qA 68 lenSl 67,qB 69 (binA prog .lss 3) 62 68] K s := (den_reg hf _ K s).trans (by kernel_rfl)
theorem i5_eq : den prog ann 67 (.code i5 :: K) s = ifV prog ann 67 69 i5t i5e K s (s.get 69) := den_if hf (by kernel_rfl) K s
theorem i5t_eq : den prog ann 67 (.code i5t :: K) s = den prog ann 67 (K) s := den_flat hf (l := []) (by kernel_rfl) K s
theorem i5e_eq : den prog ann 67 (.code i5e :: K) s = den prog ann 67 (.code (.exit 10) :: K) s := den_flat hf (l := [(.exit 10)]) (by kernel_rfl) K s
theorem k11_eq : den prog ann 67 (.code k11 :: K) s = den prog ann 67 (.code r24 :: .inBlock 11 :: K) s := den_blk hf (b := blkOf k11) (l := [r24]) (by kernel_rfl) (by kernel_rfl) K s
theorem r24_draw : drawOk (fun g => (ann g).pure) (modeOf (ann 67) (idOf r24)) (frzOf (ann 67) (idOf r24)) (opsOf r24) = true := drawOk_of (an := [0, 0, 3, 7, 0, 0, 0, 96, 224, 0, 992, 2016, 4064, 8160, 8160, 24544, 8160, 122848, 253920, 8160, 1040352, 2088928, 4194272, 8388576, 8160, 16785376, 8160, 117448672, 251666400, 8160, 1056972768, 2130714592, 4294967264, 8589934560, 17179869152, 34359738367, 68719476735]) (by kernel_rfl) (by kernel_rfl)
theorem r24_eq : den prog ann 67 (.code r24 :: K) s = mreg prog ann 67 none [] (some 37) [] [qC 72 4,qC 73 9,qB 74 (idxSl 1) 72 73,qF 75 fun s => loadA false 1 s.m (s.get 74),qC 76 10,qC 77 4,qC 78 9,qB 79 (idxSl 1) 77 78,qF 80 fun s => loadA false 1 s.m (s.get 79),qC 81 10,qB 82 (idxSl 1) 80 81,qF 83 fun s => loadA false 1 s.m (s.get 82),qC 84 83,⟨some 85, some (84, true), .v fun s => some (s.get 4)⟩,⟨some 86, some (84, true), .v fun s => fieldA 0 (s.get 1)⟩,⟨some 87, some (84, true), .v fun s => loadF false 1 (s.get 86)⟩,⟨some 88, some (84, true), .v fun s => some (s.get 9)⟩,⟨some 89, some (84, true), .v fun s => idxSl 1 (s.get 87) (s.get 88)⟩,⟨some 90, some (84, true), .v fun s => loadF false 1 (s.get 89)⟩,⟨some 91, some (84, true), .v fun s => some (s.get 11)⟩,⟨some 92, some (84, true), .v fun s => idxSl 1 (s.get 90) (s.get 91)⟩,⟨some 93, some (84, true), .v fun s => loadF false 1 (s.get 92)⟩,⟨some 94, some (84, true), .v fun s => idxSl 1 (s.get 85) (s.get 93)⟩,⟨some 95, some (84, true), .v fun s => loadA false 1 s.m (s.get 94)⟩,⟨some 96, some (84, true), .v fun s => fieldA 0 (s.get 1)⟩,⟨some 97, some (84, true), .v fun s => loadF false 1 (s.get 96)⟩,⟨some 98, some (84, true), .v fun s => some (s.get 10)⟩,⟨some 99, some (84, true), .v fun s => idxSl 1 (s.get 97) (s.get 98)⟩,⟨some 100, some (84, true), .v fun s => loadF false 1 (s.get 99)⟩,⟨some 101, some (84, true), .v fun s => some (s.get 11)⟩,⟨some 102, some (84, true), .v fun s => idxSl 1 (s.get 100) (s.get 101)⟩,⟨some 103, some (84, true), .v fun s => loadF false 1 (s.get 102)⟩,⟨some 104, some (84, true), .v fun s => idxSl 1 (s.get 95) (s.get 103)⟩,⟨some 105, some (84, true), .v fun s => loadA false 1 s.m (s.get 104)⟩,qF 106 fun s => pickA (s.get 84) (s.get 105) (.bool false),qB 107 (idxSl 1) 75 76,⟨none, none, .w false (some 36) fun s => stA false 1 s.m (s.get 107) (s.get 106)⟩] K s := (den_regD hf r24_draw K s).trans (by kernel_rfl)
theorem r23_eq : den prog ann 67 (.code r23 :: K) s = mreg prog ann 67 (some [1, 3, 4, 8, 9, 10, 11]) [] none [] [qC 70 11,qF 71 fun s => binA prog .add 3 (s.get 70) (.int .i64 1),qC 11 71] K s := (den_reg hf _ K s).trans (by kernel_rfl)
theorem r20_eq : den prog ann 67 (.code r20 :: K) s = mreg prog ann 67 (some [1, 3, 4, 8, 9, 10]) [] none [] [qC 60 10,qF 61 fun s => binA prog .add 3 (s.get 60) (.int .i64 1),qC 10 61] K s := (den_reg hf _ K s).trans (by kernel_rfl)
theorem r17_eq : den prog ann 67 (.code r17 :: K) s = mreg prog ann 67 (some [1, 3, 4, 8, 9]) [] none [] [qC 55 9,qF 56 fun s => binA prog .add 3 (s.get 55) (.int .i64 1),qC 9 56] K s := (den_reg hf _ K s).trans (by kernel_rfl)
theorem r14_eq : den prog ann 67 (.code r14 :: K) s = mreg prog ann 67 (some [1, 3, 4, 8]) [] none [] [qC 50 8,qF 51 fun s => binA prog .add 3 (s.get 50) (.int .i64 1),qC 8 51] K s := (den_reg hf _ K s).trans (by kernel_rfl)
theorem r25_eq : den prog ann 67 (.code r25 :: K) s = mreg prog ann 67 (some [4]) [] none [] [qC 108 4,qC 2 108] K s := (den_reg hf _ K s).trans (by kernel_rfl)
theorem ret_eq : den prog ann 67 (.code .ret :: K) s = finM true [fun s => some (s.get 2)] s := (den_ret hf K s).trans (by kernel_rfl)
theorem nil_eq (s : St) : den prog ann 67 [] s = finM true [fun s => some (s.get 2)] s := (den_nil hf s).trans (by kernel_rfl)
theorem inBlock_eq (id : Nat) (K : List Item) (s : St) : den prog ann 67 (.inBlock id :: K) s = den prog ann 67 K s := den_inBlock hf id K s
theorem exit_eq (id : Nat) (K : List Item) (s : St) : den prog ann 67 (.code (.exit id) :: K) s = exitV prog ann 67 (exitTo id K) s := den_exitV hf id K s
theorem call_eq (v0 : AV) (m : Mem) (h : closedL [v0] = true) : denC prog ann 67 [v0] m = (den prog ann 67 [.code b] ⟨[(0, v0)], 109, Mem.empty⟩).bind fun r => some (r.1, m) := (denC_pure hf (b := b) (by kernel_rfl) (by kernel_rfl) (by kernel_rfl) h m).trans (by kernel_rfl)
theorem pure_eq : (ann 67).pure = true := by kernel_rfl
attribute [simp] b_eq r0_eq r1_eq r2_eq r3_eq k0_eq l0_eq r4_eq i0_eq i0t_eq i0e_eq k1_eq r6_eq r7_eq k2_eq l2_eq r8_eq i1_eq i1t_eq i1e_eq k3_eq r10_eq r9_eq r11_eq r5_eq r12_eq k4_eq l4_eq r13_eq i2_eq i2t_eq i2e_eq k5_eq r15_eq k6_eq l6_eq r16_eq i3_eq i3t_eq i3e_eq k7_eq r18_eq k8_eq l8_eq r19_eq i4_eq i4t_eq i4e_eq k9_eq r21_eq k10_eq l10_eq r22_eq i5_eq i5t_eq i5e_eq k11_eq r24_eq r23_eq r20_eq r17_eq r14_eq r25_eq ret_eq nil_eq inBlock_eq exit_eq pure_eq
end
end r07_alike
namespace brand_smallest_1
noncomputable section
variable (K : List Item) (s : St)
def b : Code := (Try.f80.body).getD .skip
theorem hf : prog.funcs[80]? = some Try.f80 := by kernel_rfl
def r0 := findReg b 0
def r1 := findReg b 1
def r2 := findReg b 2
def i0 := findCond b 0
def i0t := thenOf i0
def i0e := elseOf i0
def r3 := findReg b 3
def r4 := findReg b 4
def r5 := findReg b 5
theorem b_eq : den prog ann 80 (.code b :: K) s = den prog ann 80 (.code r0 :: .code r1 :: .code r2 :: .code i0 :: .code r5 :: .code .ret :: K) s := den_flat hf (l := [r0, r1, r2, i0, r5, .ret]) (by kernel_rfl) K s
theorem r0_eq : den prog ann 80 (.code r0 :: K) s = mreg prog ann 80 none [] none [] [qA 3 frozenPtr 0,qF 4 fun s => some (.int .i64 0)] K s := (den_reg hf _ K s).trans (by kernel_rfl)
theorem r1_eq : den prog ann 80 (.code r1 :: K) s = mreg prog ann 80 none [] none [] [qF 6 fun s => loadA false 1 s.m (s.get 1),qF 7 fun s => some (.fn 82 [] [(s.get 2), (s.get 3)]),⟨some 8, none, .c 0 (fun s => (.fn 81 [] [])) fun s => [(s.get 6), (s.get 7)]⟩,qC 5 8] K s := (den_reg hf _ K s).trans (by kernel_rfl)
theorem r2_eq : den prog ann 80 (.code r2 :: K) s = mreg prog ann 80 none [] none [] [qC 9 5,qF 10 fun s => binA prog .lss 3 (s.get 9) (.int .i64 0)] K s := (den_reg hf _ K s).trans (by kernel_rfl)
theorem i0_eq : den prog ann 80 (.code i0 :: K) s = ifV prog ann 80 10 i0t i0e K s (s.get 10) := den_if hf (by kernel_rfl) K s
theorem i0t_eq : den prog ann 80 (.code i0t :: K) s = den prog ann 80 (.code r3 :: .code r4 :: K) s := den_flat hf (l := [r3, r4]) (by kernel_rfl) K s
theorem r3_eq : den prog ann 80 (.code r3 :: K) s = mreg prog ann 80 none [] none [] [qF 11 fun s => loadA false 1 s.m (s.get 1),qA 12 lenSl 11,qC 5 12] K s := (den_reg hf _ K s).trans (by kernel_rfl)
theorem r4_eq : den prog ann 80 (.code r4 :: K) s = mreg prog ann 80 none [] none [] [qF 13 fun s => loadA false 1 s.m (s.get 1),qA 14 (loadF false 1) 3,qF 15 fun s => bslF 1 (bslA 1 1 [.int .i64 0] [(0, (s.get 14))]),⟨some 16, none, .w false none fun s => appendA 1 8 s.m (s.get 13) (s.get 15)⟩,⟨none, none, .w false none fun s => stA false 1 s.m (s.get 1) (s.get 16)⟩] K s := (den_reg hf _ K s).trans (by kernel_rfl)
theorem i0e_eq : den prog ann 80 (.code i0e :: K) s = den prog ann 80 (K) s := den_flat hf (l := []) (by kernel_rfl) K s
theorem r5_eq : den prog ann 80 (.code r5 :: K) s = mreg prog ann 80 (some [5]) [] none [] [qC 17 5,qC 4 17] K s := (den_reg hf _ K s).trans (by kernel_rfl)
theorem ret_eq : den prog ann 80 (.code .ret :: K) s = finM false [fun s => some (s.get 4)] s := (den_ret hf K s).trans (by kernel_rfl)
theorem nil_eq (s : St) : den prog ann 80 [] s = finM false [fun s => some (s.get 4)] s := (den_nil hf s).trans (by kernel_rfl)
theorem inBlock_eq (id : Nat) (K : List Item) (s : St) : den prog ann 80 (.inBlock id :: K) s = den prog ann 80 K s := den_inBlock hf id K s
theorem exit_eq (id : Nat) (K : List Item) (s : St) : den prog ann 80 (.code (.exit id) :: K) s = exitV prog ann 80 (exitTo id K) s := den_exitV hf id K s
theorem call_eq (v0 v1 v2 : AV) (m : Mem) : denC prog ann 80 [v0, v1, v2] m = den prog ann 80 [.code b] ⟨[(0, v0), (1, v1), (2, v2)], 18, m⟩ := (denC_impure hf (b := b) (by kernel_rfl) (by kernel_rfl) (by kernel_rfl) m).trans (by kernel_rfl)
theorem pure_eq : (ann 80).pure = false := by kernel_rfl
attribute [simp] b_eq r0_eq r1_eq r2_eq i0_eq i0t_eq r3_eq r4_eq i0e_eq r5_eq ret_eq nil_eq inBlock_eq exit_eq pure_eq
end
end brand_smallest_1
namespace slices_IndexFunc_int
noncomputable section
variable (K : List Item) (s : St)
def b : Code := (Try.f81.body).getD .skip
theorem hf : prog.funcs[81]? = some Try.f81 := by kernel_rfl
def r0 := findReg b 0
def r1 := findReg b 1
def k0 := findBlk b 0
def l0 := loopOf k0
def L0 (x0 x1 x7 x8 : AV) (m : Mem) (K : List Item) : Option Res := den prog ann 81 (.code l0 :: .inLoop l0 :: .inBlock 0 :: K) ⟨[(0, x0), (1, x1), (7, x7), (8, x8)], 19, m⟩
def r2 := findReg b 2
def i0 := findCond b 0
def i0t := thenOf i0
def i0e := elseOf i0
def k1 := findBlk b 1
def r3 := findReg b 3
def r4 := findReg b 4
def i1 := findCond b 1
def i1t := thenOf i1
def i1e := elseOf i1
def r5 := findReg b 5
def r6 := findReg b 6
def r7 := findReg b 7
theorem b_eq : den prog ann 81 (.code b :: K) s = den prog ann 81 (.code r0 :: .code r1 :: .code k0 :: .code r7 :: .code .ret :: K) s := den_flat hf (l := [r0, r1, k0, r7, .ret]) (by kernel_rfl) K s
theorem r0_eq : den prog ann 81 (.code r0 :: K) s = mreg prog ann 81 none [] none [] [qF 4 fun s => some (.int .i64 0)] K s := (den_reg hf _ K s).trans (by kernel_rfl)
theorem r1_eq : den prog ann 81 (.code r1 :: K) s = mreg prog ann 81 none [] none [] [qC 6 0,qA 7 lenSl 6,qF 8 fun s => some (.int .i64 0)] K s := (den_reg hf _ K s).trans (by kernel_rfl)
theorem k0_eq (K : List Item) (t : List (Nat × AV)) (m : Mem) : den prog ann 81 (.code k0 :: K) ⟨t, 19, m⟩ = L0 (get t 0) (get t 1) (get t 7) (get t 8) m K := den_loop_enter hf (b := l0) (id := 2) (l := [0, 1, 7, 8]) (by kernel_rfl) (by kernel_rfl) (by kernel_rfl) K _
theorem l0_eq (K : List Item) (t : List (Nat × AV)) (m : Mem) : den prog ann 81 (.inLoop l0 :: .inBlock 0 :: K) ⟨t, 19, m⟩ = L0 (get t 0) (get t 1) (get t 7) (get t 8) m K := den_loop_again hf (id := 2) (l := [0, 1, 7, 8]) (by kernel_rfl) (by kernel_rfl) (.inBlock 0 :: K) _
theorem L0_eq (x0 x1 x7 x8 : AV) (m : Mem) (K : List Item) : L0 x0 x1 x7 x8 m K = den prog ann 81 (.code r2 :: .code i0 :: .code k1 :: .code r6 :: .inLoop l0 :: .inBlock 0 :: K) ⟨[(0, x0), (1, x1), (7, x7), (8, x8)], 19, m⟩ := den_flat hf (l := [r2, i0, k1, r6]) (by kernel_rfl) _ _
theorem r2_eq : den prog ann 81 (.code r2 :: K) s = mreg prog ann 81 (some [0, 1, 7, 8]) [] none [] [qB 9 (binA prog .lss 3) 8 7] K s := (den_reg hf _ K s).trans (by kernel_rfl)
theorem i0_eq : den prog ann 81 (.code i0 :: K) s = ifV prog ann 81 9 i0t i0e K s (s.get 9) := den_if hf (by kernel_rfl) K s
theorem i0t_eq : den prog ann 81 (.code i0t :: K) s = den prog ann 81 (K) s := den_flat hf (l := []) (by kernel_rfl) K s
theorem i0e_eq : den prog ann 81 (.code i0e :: K) s = den prog ann 81 (.code (.exit 0) :: K) s := den_flat hf (l := [(.exit 0)]) (by kernel_rfl) K s
theorem k1_eq : den prog ann 81 (.code k1 :: K) s = den prog ann 81 (.code r3 :: .code r4 :: .code i1 :: .inBlock 1 :: K) s := den_blk hf (b := blkOf k1) (l := [r3, r4, i1]) (by kernel_rfl) (by kernel_rfl) K s
theorem r3_eq : den prog ann 81 (.code r3 :: K) s = mreg prog ann 81 none [] none [] [qC 10 8,qC 5 10] K s := (den_reg hf _ K s).trans (by kernel_rfl)
theorem r4_eq : den prog ann 81 (.code r4 :: K) s = mreg prog ann 81 none [] none [] [qC 11 1,qC 12 0,qC 13 5,qB 14 (idxSl 1) 12 13,qF 15 fun s => loadA false 1 s.m (s.get 14),⟨some 16, none, .c 0 (fun s => (s.get 11)) fun s => [(s.get 15)]⟩] K s := (den_reg hf _ K s).trans (by kernel_rfl)
theorem i1_eq : den prog ann 81 (.code i1 :: K) s = ifV prog ann 81 16 i1t i1e K s (s.get 16) := den_if hf (by kernel_rfl) K s
theorem i1t_eq : den prog ann 81 (.code i1t :: K) s = den prog ann 81 (.code r5 :: .code .ret :: K) s := den_flat hf (l := [r5, .ret]) (by kernel_rfl) K s
theorem r5_eq : den prog ann 81 (.code r5 :: K) s = mreg prog ann 81 none [] none [] [qC 17 5,qC 4 17] K s := (den_reg hf _ K s).trans (by kernel_rfl)
theorem i1e_eq : den prog ann 81 (.code i1e :: K) s = den prog ann 81 (K) s := den_flat hf (l := []) (by kernel_rfl) K s
theorem r6_eq : den prog ann 81 (.code r6 :: K) s = mreg prog ann 81 (some [0, 1, 7, 8]) [] none [] [qF 18 fun s => binA prog .add 3 (s.get 8) (.int .i64 1),qC 8 18] K s := (den_reg hf _ K s).trans (by kernel_rfl)
theorem r7_eq : den prog ann 81 (.code r7 :: K) s = mreg prog ann 81 (some []) [] none [] [qF 4 fun s => some (.int .i64 (-1))] K s := (den_reg hf _ K s).trans (by kernel_rfl)
theorem ret_eq : den prog ann 81 (.code .ret :: K) s = finM false [fun s => some (s.get 4)] s := (den_ret hf K s).trans (by kernel_rfl)
theorem nil_eq (s : St) : den prog ann 81 [] s = finM false [fun s => some (s.get 4)] s := (den_nil hf s).trans (by kernel_rfl)
theorem inBlock_eq (id : Nat) (K : List Item) (s : St) : den prog ann 81 (.inBlock id :: K) s = den prog ann 81 K s := den_inBlock hf id K s
theorem exit_eq (id : Nat) (K : List Item) (s : St) : den prog ann 81 (.code (.exit id) :: K) s = exitV prog ann 81 (exitTo id K) s := den_exitV hf id K s
theorem call_eq (v0 v1 : AV) (m : Mem) : denC prog ann 81 [v0, v1] m = den prog ann 81 [.code b] ⟨[(0, v0), (1, v1)], 19, m⟩ := (denC_impure hf (b := b) (by kernel_rfl) (by kernel_rfl) (by kernel_rfl) m).trans (by kernel_rfl)
theorem pure_eq : (ann 81).pure = false := by kernel_rfl
attribute [simp] b_eq r0_eq r1_eq k0_eq l0_eq r2_eq i0_eq i0t_eq i0e_eq k1_eq r3_eq r4_eq i1_eq i1t_eq r5_eq i1e_eq r6_eq r7_eq ret_eq nil_eq inBlock_eq exit_eq pure_eq
end
end slices_IndexFunc_int
namespace brand_smallest_1_1
noncomputable section
variable (K : List Item) (s : St)
def b : Code := (Try.f82.body).getD .skip
theorem hf : prog.funcs[82]? = some Try.f82 := by kernel_rfl
def r0 := findReg b 0
def r1 := findReg b 1
theorem b_eq : den prog ann 82 (.code b :: K) s = den prog ann 82 (.code r0 :: .code r1 :: .code .ret :: K) s := den_flat hf (l := [r0, r1, .ret]) (by kernel_rfl) K s
theorem r0_eq : den prog ann 82 (.code r0 :: K) s = mreg prog ann 82 none [] none [] [qF 4 fun s => some (.bool false)] K s := (den_reg hf _ K s).trans (by kernel_rfl)
theorem r1_eq : den prog ann 82 (.code r1 :: K) s = mreg prog ann 82 none [] none [] [qF 5 fun s => loadA false 1 s.m (s.get 1),qF 6 fun s => loadA false 1 s.m (s.get 2),qB 7 (idxSl 1) 5 6,qF 8 fun s => loadA false 1 s.m (s.get 7),qC 9 0,qB 10 (idxSl 1) 8 9,qF 11 fun s => loadA false 1 s.m (s.get 10),qA 12 (unA .not) 11,qC 4 12] K s := (den_reg hf _ K s).trans (by kernel_rfl)
theorem ret_eq : den prog ann 82 (.code .ret :: K) s = finM false [fun s => some (s.get 4)] s := (den_ret hf K s).trans (by kernel_rfl)
theorem nil_eq (s : St) : den prog ann 82 [] s = finM false [fun s => some (s.get 4)] s := (den_nil hf s).trans (by kernel_rfl)
theorem inBlock_eq (id : Nat) (K : List Item) (s : St) : den prog ann 82 (.inBlock id :: K) s = den prog ann 82 K s := den_inBlock hf id K s
theorem exit_eq (id : Nat) (K : List Item) (s : St) : den prog ann 82 (.code (.exit id) :: K) s = exitV prog ann 82 (exitTo id K) s := den_exitV hf id K s
theorem call_eq (v0 v1 v2 : AV) (m : Mem) : denC prog ann 82 [v0, v1, v2] m = den prog ann 82 [.code b] ⟨[(0, v0), (1, v1), (2, v2)], 13, m⟩ := (denC_impure hf (b := b) (by kernel_rfl) (by kernel_rfl) (by kernel_rfl) m).trans (by kernel_rfl)
theorem pure_eq : (ann 82).pure = false := by kernel_rfl
attribute [simp] b_eq r0_eq r1_eq ret_eq nil_eq inBlock_eq exit_eq pure_eq
end
end brand_smallest_1_1
end Go.Proofs.Ythnpflkpjimkfaa
