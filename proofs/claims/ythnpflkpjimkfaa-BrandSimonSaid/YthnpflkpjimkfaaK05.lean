/-
  BODIES OF FUNCTIONS OF THE PROGRAM AS SMALL OPERATIONS (written by gen.py; checked by the kernel against the program). Conditions: none.
-/
import Derived.Test.YthnpflkpjimkfaaKAmH
import Derived.Test.YthnpflkpjimkfaaK04
set_option linter.all false
namespace Go.Proofs.Ythnpflkpjimkfaa
open Go.AM
open Go.Proofs.Try (prog)
set_option maxRecDepth 100000
set_option linter.all false
namespace brand_Short
noncomputable section
variable (K : List Item) (s : St)
def b : Code := (Try.f18.body).getD .skip
theorem hf : prog.funcs[18]? = some Try.f18 := by kernel_rfl
def r0 := findReg b 0
def r1 := findReg b 1
def i0 := findCond b 0
def i0t := thenOf i0
def i0e := elseOf i0
def r2 := findReg b 2
def r3 := findReg b 3
def r4 := findReg b 4
def r5 := findReg b 5
def r6 := findReg b 6
def r7 := findReg b 7
def r8 := findReg b 8
def r9 := findReg b 9
def k0 := findBlk b 0
def l0 := loopOf k0
def L0 (x1 x7 x8 x10 x11 x12 x13 x14 x15 : AV) (m : Mem) (K : List Item) : Option Res := den prog ann 18 (.code l0 :: .inLoop l0 :: .inBlock 0 :: K) ⟨[(1, x1), (7, x7), (8, x8), (10, x10), (11, x11), (12, x12), (13, x13), (14, x14), (15, x15)], 241, m⟩
def r10 := findReg b 10
def i1 := findCond b 1
def i1t := thenOf i1
def i1e := elseOf i1
def k1 := findBlk b 1
def r12 := findReg b 12
def r13 := findReg b 13
def r14 := findReg b 14
def i2 := findCond b 2
def i2t := thenOf i2
def i2e := elseOf i2
def r15 := findReg b 15
def r16 := findReg b 16
def r17 := findReg b 17
def i3 := findCond b 3
def i3t := thenOf i3
def i3e := elseOf i3
def r18 := findReg b 18
def r19 := findReg b 19
def r20 := findReg b 20
def k2 := findBlk b 2
def l2 := loopOf k2
def L2 (x1 x7 x8 x10 x11 x12 x13 x14 x15 x16 x102 x103 : AV) (m : Mem) (K : List Item) : Option Res := den prog ann 18 (.code l2 :: .inLoop l2 :: .inBlock 2 :: K) ⟨[(1, x1), (7, x7), (8, x8), (10, x10), (11, x11), (12, x12), (13, x13), (14, x14), (15, x15), (16, x16), (102, x102), (103, x103)], 241, m⟩
def r21 := findReg b 21
def i4 := findCond b 4
def i4t := thenOf i4
def i4e := elseOf i4
def k3 := findBlk b 3
def r22 := findReg b 22
def r23 := findReg b 23
def r24 := findReg b 24
def r25 := findReg b 25
def r26 := findReg b 26
def i5 := findCond b 5
def i5t := thenOf i5
def i5e := elseOf i5
def r27 := findReg b 27
def r28 := findReg b 28
def r29 := findReg b 29
def i6 := findCond b 6
def i6t := thenOf i6
def i6e := elseOf i6
def r30 := findReg b 30
def r31 := findReg b 31
def r11 := findReg b 11
def r32 := findReg b 32
def r33 := findReg b 33
def k4 := findBlk b 4
def l4 := loopOf k4
def L4 (x12 x13 x25 x154 x155 x156 : AV) (m : Mem) (K : List Item) : Option Res := den prog ann 18 (.code l4 :: .inLoop l4 :: .inBlock 4 :: K) ⟨[(12, x12), (13, x13), (25, x25), (154, x154), (155, x155), (156, x156)], 241, m⟩
def r34 := findReg b 34
def i7 := findCond b 7
def i7t := thenOf i7
def i7e := elseOf i7
def k5 := findBlk b 5
def r35 := findReg b 35
def r36 := findReg b 36
def r37 := findReg b 37
def r38 := findReg b 38
def i8 := findCond b 8
def i8t := thenOf i8
def i8e := elseOf i8
def r39 := findReg b 39
def r40 := findReg b 40
def k6 := findBlk b 6
def r41 := findReg b 41
def i9 := findCond b 9
def i9t := thenOf i9
def i9e := elseOf i9
def r42 := findReg b 42
def r43 := findReg b 43
def i10 := findCond b 10
def i10t := thenOf i10
def i10e := elseOf i10
def r44 := findReg b 44
def r45 := findReg b 45
def r46 := findReg b 46
def i11 := findCond b 11
def i11t := thenOf i11
def i11e := elseOf i11
def r47 := findReg b 47
def r48 := findReg b 48
theorem b_eq : den prog ann 18 (.code b :: K) s = den prog ann 18 (.code r0 :: .code r1 :: .code i0 :: .code r3 :: .code r4 :: .code r5 :: .code r6 :: .code r7 :: .code r8 :: .code r9 :: .code k0 :: .code r32 :: .code r33 :: .code k4 :: .code r46 :: .code i11 :: .code r48 :: .code .ret :: K) s := den_flat hf (l := [r0, r1, i0, r3, r4, r5, r6, r7, r8, r9, k0, r32, r33, k4, r46, i11, r48, .ret]) (by kernel_rfl) K s
theorem r0_eq : den prog ann 18 (.code r0 :: K) s = mreg prog ann 18 none [] none [] [qA 2 frozenPtr 0,qF 4 fun s => some (.str []),qF 5 fun s => some (.str []),qF 6 fun s => some (.int .i64 0)] K s := (den_reg hf _ K s).trans (by kernel_rfl)
theorem r1_eq : den prog ann 18 (.code r1 :: K) s = mreg prog ann 18 none [] none [] [qA 34 (loadF true 2) 2,⟨some 35, none, .c 0 (fun s => (.fn 55 [] [])) fun s => [(s.get 34)]⟩,qA 36 (unA .not) 35,qC 37 36,⟨some 38, some (37, false), .v fun s => some (s.get 1)⟩,⟨some 39, some (37, false), .v fun s => binA prog .lss 3 (s.get 38) (.int .i64 0)⟩,qF 40 fun s => pickA (s.get 37) (.bool true) (s.get 39),qC 41 40,⟨some 42, some (41, false), .v fun s => some (s.get 1)⟩,⟨some 43, some (41, false), .v fun s => binA prog .gtr 3 (s.get 42) (.int .i64 3)⟩,qF 44 fun s => pickA (s.get 41) (.bool true) (s.get 43)] K s := (den_reg hf _ K s).trans (by kernel_rfl)
theorem i0_eq : den prog ann 18 (.code i0 :: K) s = ifV prog ann 18 44 i0t i0e K s (s.get 44) := den_if hf (by kernel_rfl) K s
theorem i0t_eq : den prog ann 18 (.code i0t :: K) s = den prog ann 18 (.code r2 :: .code .ret :: K) s := den_flat hf (l := [r2, .ret]) (by kernel_rfl) K s
theorem r2_eq : den prog ann 18 (.code r2 :: K) s = mreg prog ann 18 none [] none [] [qF 4 fun s => some (.str []),qF 5 fun s => some (.str []),qF 6 fun s => some (.int .i64 1)] K s := (den_reg hf _ K s).trans (by kernel_rfl)
theorem i0e_eq : den prog ann 18 (.code i0e :: K) s = den prog ann 18 (K) s := den_flat hf (l := []) (by kernel_rfl) K s
theorem r3_eq : den prog ann 18 (.code r3 :: K) s = mreg prog ann 18 none [] none [7] [qA 45 (loadF true 2) 2,⟨some 46, none, .c 0 (fun s => (.fn 56 [] [])) fun s => [(s.get 45)]⟩,⟨some 7, none, .w false none fun s => newPtr s.m [.nils, .nils]⟩,⟨none, none, .w false none fun s => stA true 2 s.m (s.get 7) (s.get 46)⟩] K s := (den_reg hf _ K s).trans (by kernel_rfl)
theorem r4_eq : den prog ann 18 (.code r4 :: K) s = mreg prog ann 18 none [] none [] [qF 8 fun s => some (.fn 57 [] [])] K s := (den_reg hf _ K s).trans (by kernel_rfl)
theorem r5_eq : den prog ann 18 (.code r5 :: K) s = mreg prog ann 18 none [] none [9] [qC 47 8,⟨some 48, none, .w false none fun s => bslM s.m 1 (bslA 1 1 [.str []] [(0, (.str []))])⟩,⟨some 49, none, .c 0 (fun s => (s.get 47)) fun s => [(s.get 48)]⟩,qF 50 fun s => bldA (plc [(0, 1), (1, 1)]) [.int .i64 0, .str []] [(0, (.int .i64 0)), (1, (s.get 49))],⟨some 9, none, .w false none fun s => newPtr s.m [.int .i64 0, .str []]⟩,⟨none, none, .w false none fun s => stA true 2 s.m (s.get 9) (s.get 50)⟩] K s := (den_reg hf _ K s).trans (by kernel_rfl)
theorem r6_draw : drawOk (fun g => (ann g).pure) (modeOf (ann 18) (idOf r6)) (frzOf (ann 18) (idOf r6)) (opsOf r6) = true := drawOk_of (an := [0, 0, 3, 7, 0, 0, 0, 112, 240, 15, 1023]) (by kernel_rfl) (by kernel_rfl)
theorem r6_eq : den prog ann 18 (.code r6 :: K) s = mreg prog ann 18 none [] (some 11) [3051054] [⟨some 51, none, .w false (some 0) fun s => some (.map s.m.nx, s.m.new (.map 0 [] []))⟩,qA 52 (loadF true 2) 9,⟨none, none, .w false (some 2) fun s => updM prog s.m 93 (s.get 51) (s.get 52) (.str [])⟩,qC 53 51,⟨some 54, none, .w false (some 4) fun s => some (.map s.m.nx, s.m.new (.map 0 [] []))⟩,qA 55 (loadF true 2) 9,qF 56 fun s => bslF 1 (bslA 1 1 [.str []] [(0, (.str []))]),⟨none, none, .w false (some 7) fun s => updM prog s.m 93 (s.get 54) (s.get 55) (s.get 56)⟩,qC 57 54,qC 10 53,qC 11 57] K s := (den_regD hf r6_draw K s).trans (by kernel_rfl)
theorem r7_eq : den prog ann 18 (.code r7 :: K) s = mreg prog ann 18 none [] none [] [⟨some 58, none, .w false none fun s => some (.map s.m.nx, s.m.new (.map 0 [] []))⟩,⟨some 59, none, .w false none fun s => some (.map s.m.nx, s.m.new (.map 0 [] []))⟩,qC 12 58,qC 13 59] K s := (den_reg hf _ K s).trans (by kernel_rfl)
theorem r8_eq : den prog ann 18 (.code r8 :: K) s = mreg prog ann 18 none [] none [] [qF 14 fun s => some (.nils)] K s := (den_reg hf _ K s).trans (by kernel_rfl)
theorem r9_eq : den prog ann 18 (.code r9 :: K) s = mreg prog ann 18 none [] none [] [qA 60 (loadF true 2) 9,⟨some 61, none, .w false none fun s => bslM s.m 1 (bslA 2 1 [.int .i64 0, .str []] [(0, (s.get 60))])⟩,qC 15 61] K s := (den_reg hf _ K s).trans (by kernel_rfl)
theorem k0_eq (K : List Item) (t : List (Nat × AV)) (m : Mem) : den prog ann 18 (.code k0 :: K) ⟨t, 241, m⟩ = L0 (get t 1) (get t 7) (get t 8) (get t 10) (get t 11) (get t 12) (get t 13) (get t 14) (get t 15) m K := den_loop_enter hf (b := l0) (id := 10) (l := [1, 7, 8, 10, 11, 12, 13, 14, 15]) (by kernel_rfl) (by kernel_rfl) (by kernel_rfl) K _
theorem l0_eq (K : List Item) (t : List (Nat × AV)) (m : Mem) : den prog ann 18 (.inLoop l0 :: .inBlock 0 :: K) ⟨t, 241, m⟩ = L0 (get t 1) (get t 7) (get t 8) (get t 10) (get t 11) (get t 12) (get t 13) (get t 14) (get t 15) m K := den_loop_again hf (id := 10) (l := [1, 7, 8, 10, 11, 12, 13, 14, 15]) (by kernel_rfl) (by kernel_rfl) (.inBlock 0 :: K) _
theorem L0_eq (x1 x7 x8 x10 x11 x12 x13 x14 x15 : AV) (m : Mem) (K : List Item) : L0 x1 x7 x8 x10 x11 x12 x13 x14 x15 m K = den prog ann 18 (.code r10 :: .code i1 :: .code k1 :: .code r11 :: .inLoop l0 :: .inBlock 0 :: K) ⟨[(1, x1), (7, x7), (8, x8), (10, x10), (11, x11), (12, x12), (13, x13), (14, x14), (15, x15)], 241, m⟩ := den_flat hf (l := [r10, i1, k1, r11]) (by kernel_rfl) _ _
theorem r10_eq : den prog ann 18 (.code r10 :: K) s = mreg prog ann 18 (some [1, 7, 8, 10, 11, 12, 13, 14, 15]) [] none [] [qC 62 15,qA 63 lenSl 62,qF 64 fun s => binA prog .gtr 3 (s.get 63) (.int .i64 0)] K s := (den_reg hf _ K s).trans (by kernel_rfl)
theorem i1_eq : den prog ann 18 (.code i1 :: K) s = ifV prog ann 18 64 i1t i1e K s (s.get 64) := den_if hf (by kernel_rfl) K s
theorem i1t_eq : den prog ann 18 (.code i1t :: K) s = den prog ann 18 (K) s := den_flat hf (l := []) (by kernel_rfl) K s
theorem i1e_eq : den prog ann 18 (.code i1e :: K) s = den prog ann 18 (.code (.exit 0) :: K) s := den_flat hf (l := [(.exit 0)]) (by kernel_rfl) K s
theorem k1_eq : den prog ann 18 (.code k1 :: K) s = den prog ann 18 (.code r12 :: .code r13 :: .code r14 :: .code i2 :: .code r16 :: .code r17 :: .code i3 :: .code r20 :: .code k2 :: .inBlock 1 :: K) s := den_blk hf (b := blkOf k1) (l := [r12, r13, r14, i2, r16, r17, i3, r20, k2]) (by kernel_rfl) (by kernel_rfl) K s
theorem r12_eq : den prog ann 18 (.code r12 :: K) s = mreg prog ann 18 none [] none [16] [qC 67 15,qF 68 fun s => idxSl 2 (s.get 67) (.int .i64 0),qF 69 fun s => loadA true 2 s.m (s.get 68),⟨some 16, none, .w false none fun s => newPtr s.m [.int .i64 0, .str []]⟩,⟨none, none, .w false none fun s => stA true 2 s.m (s.get 16) (s.get 69)⟩] K s := (den_reg hf _ K s).trans (by kernel_rfl)
theorem r13_eq : den prog ann 18 (.code r13 :: K) s = mreg prog ann 18 none [] none [] [qC 70 13,qC 17 70] K s := (den_reg hf _ K s).trans (by kernel_rfl)
theorem r14_eq : den prog ann 18 (.code r14 :: K) s = mreg prog ann 18 none [] none [] [qA 71 (fieldA 1) 7,qA 72 (loadF false 1) 71,qA 73 (fieldA 0) 16,qA 74 (loadF false 1) 73,qB 75 (idxSl 1) 72 74,qF 76 fun s => loadA false 1 s.m (s.get 75)] K s := (den_reg hf _ K s).trans (by kernel_rfl)
theorem i2_eq : den prog ann 18 (.code i2 :: K) s = ifV prog ann 18 76 i2t i2e K s (s.get 76) := den_if hf (by kernel_rfl) K s
theorem i2t_eq : den prog ann 18 (.code i2t :: K) s = den prog ann 18 (.code r15 :: K) s := den_flat hf (l := [r15]) (by kernel_rfl) K s
theorem r15_eq : den prog ann 18 (.code r15 :: K) s = mreg prog ann 18 none [] none [] [qC 77 12,qC 17 77] K s := (den_reg hf _ K s).trans (by kernel_rfl)
theorem i2e_eq : den prog ann 18 (.code i2e :: K) s = den prog ann 18 (K) s := den_flat hf (l := []) (by kernel_rfl) K s
theorem r16_eq : den prog ann 18 (.code r16 :: K) s = mreg prog ann 18 (some [1, 7, 8, 10, 11, 12, 13, 14, 15, 16, 17]) [] none [] [qC 79 17,qA 80 (fieldA 1) 16,qA 81 (loadF false 1) 80,qF 82 fun s => lookP prog s.m 9 (.str []) (s.get 79) (s.get 81) true,qC 78 82,qF 83 fun s => extA (s.get 78) 0,qF 84 fun s => extA (s.get 78) 1,qC 18 83,qC 19 84] K s := (den_reg hf _ K s).trans (by kernel_rfl)
theorem r17_eq : den prog ann 18 (.code r17 :: K) s = mreg prog ann 18 none [] none [] [qC 85 19,qA 86 (unA .not) 85] K s := (den_reg hf _ K s).trans (by kernel_rfl)
theorem i3_eq : den prog ann 18 (.code i3 :: K) s = ifV prog ann 18 86 i3t i3e K s (s.get 86) := den_if hf (by kernel_rfl) K s
theorem i3t_eq : den prog ann 18 (.code i3t :: K) s = den prog ann 18 (.code r18 :: .code r19 :: K) s := den_flat hf (l := [r18, r19]) (by kernel_rfl) K s
theorem r18_draw : drawOk (fun g => (ann g).pure) (modeOf (ann 18) (idOf r18)) (frzOf (ann 18) (idOf r18)) (opsOf r18) = true := drawOk_of (an := [0, 0, 2, 0, 0, 24, 63]) (by kernel_rfl) (by kernel_rfl)
theorem r18_eq : den prog ann 18 (.code r18 :: K) s = mreg prog ann 18 none [] (some 7) [] [qC 87 17,qA 88 (fieldA 1) 16,qA 89 (loadF false 1) 88,qC 90 10,qA 91 (loadF true 2) 16,qF 92 fun s => lookP prog s.m 93 (.str []) (s.get 90) (s.get 91) false,⟨none, none, .w false (some 6) fun s => updM prog s.m 9 (s.get 87) (s.get 89) (s.get 92)⟩] K s := (den_regD hf r18_draw K s).trans (by kernel_rfl)
theorem r19_eq : den prog ann 18 (.code r19 :: K) s = mreg prog ann 18 none [] none [] [qC 93 14,qA 94 (fieldA 1) 16,qA 95 (loadF false 1) 94,qF 96 fun s => bslF 1 (bslA 1 1 [.str []] [(0, (s.get 95))]),⟨some 97, none, .w false none fun s => appendA 1 16 s.m (s.get 93) (s.get 96)⟩,qC 14 97] K s := (den_reg hf _ K s).trans (by kernel_rfl)
theorem i3e_eq : den prog ann 18 (.code i3e :: K) s = den prog ann 18 (K) s := den_flat hf (l := []) (by kernel_rfl) K s
theorem r20_eq : den prog ann 18 (.code r20 :: K) s = mreg prog ann 18 none [] none [] [qA 98 (fieldA 0) 7,qA 99 (loadF false 1) 98,qF 100 fun s => idxSl 1 (s.get 99) (.int .i64 0),qF 101 fun s => loadA false 1 s.m (s.get 100),qA 102 lenSl 101,qF 103 fun s => some (.int .i64 0)] K s := (den_reg hf _ K s).trans (by kernel_rfl)
theorem k2_eq (K : List Item) (t : List (Nat × AV)) (m : Mem) : den prog ann 18 (.code k2 :: K) ⟨t, 241, m⟩ = L2 (get t 1) (get t 7) (get t 8) (get t 10) (get t 11) (get t 12) (get t 13) (get t 14) (get t 15) (get t 16) (get t 102) (get t 103) m K := den_loop_enter hf (b := l2) (id := 21) (l := [1, 7, 8, 10, 11, 12, 13, 14, 15, 16, 102, 103]) (by kernel_rfl) (by kernel_rfl) (by kernel_rfl) K _
theorem l2_eq (K : List Item) (t : List (Nat × AV)) (m : Mem) : den prog ann 18 (.inLoop l2 :: .inBlock 2 :: K) ⟨t, 241, m⟩ = L2 (get t 1) (get t 7) (get t 8) (get t 10) (get t 11) (get t 12) (get t 13) (get t 14) (get t 15) (get t 16) (get t 102) (get t 103) m K := den_loop_again hf (id := 21) (l := [1, 7, 8, 10, 11, 12, 13, 14, 15, 16, 102, 103]) (by kernel_rfl) (by kernel_rfl) (.inBlock 2 :: K) _
theorem L2_eq (x1 x7 x8 x10 x11 x12 x13 x14 x15 x16 x102 x103 : AV) (m : Mem) (K : List Item) : L2 x1 x7 x8 x10 x11 x12 x13 x14 x15 x16 x102 x103 m K = den prog ann 18 (.code r21 :: .code i4 :: .code k3 :: .code r31 :: .inLoop l2 :: .inBlock 2 :: K) ⟨[(1, x1), (7, x7), (8, x8), (10, x10), (11, x11), (12, x12), (13, x13), (14, x14), (15, x15), (16, x16), (102, x102), (103, x103)], 241, m⟩ := den_flat hf (l := [r21, i4, k3, r31]) (by kernel_rfl) _ _
theorem r21_eq : den prog ann 18 (.code r21 :: K) s = mreg prog ann 18 (some [1, 7, 8, 10, 11, 12, 13, 14, 15, 16, 102, 103]) [] none [] [qB 104 (binA prog .lss 3) 103 102] K s := (den_reg hf _ K s).trans (by kernel_rfl)
theorem i4_eq : den prog ann 18 (.code i4 :: K) s = ifV prog ann 18 104 i4t i4e K s (s.get 104) := den_if hf (by kernel_rfl) K s
theorem i4t_eq : den prog ann 18 (.code i4t :: K) s = den prog ann 18 (K) s := den_flat hf (l := []) (by kernel_rfl) K s
theorem i4e_eq : den prog ann 18 (.code i4e :: K) s = den prog ann 18 (.code (.exit 2) :: K) s := den_flat hf (l := [(.exit 2)]) (by kernel_rfl) K s
theorem k3_eq : den prog ann 18 (.code k3 :: K) s = den prog ann 18 (.code r22 :: .code r23 :: .code r24 :: .code r25 :: .code r26 :: .code i5 :: .code r27 :: .code r28 :: .code r29 :: .code i6 :: .inBlock 3 :: K) s := den_blk hf (b := blkOf k3) (l := [r22, r23, r24, r25, r26, i5, r27, r28, r29, i6]) (by kernel_rfl) (by kernel_rfl) K s
theorem r22_eq : den prog ann 18 (.code r22 :: K) s = mreg prog ann 18 none [] none [] [qC 105 103,qC 20 105] K s := (den_reg hf _ K s).trans (by kernel_rfl)
theorem r23_draw : drawOk (fun g => (ann g).pure) (modeOf (ann 18) (idOf r23)) (frzOf (ann 18) (idOf r23)) (opsOf r23) = true := drawOk_of (an := [0, 0, 3, 0, 8, 0, 63, 127]) (by kernel_rfl) (by kernel_rfl)
theorem r23_eq : den prog ann 18 (.code r23 :: K) s = mreg prog ann 18 none [] (some 8) [] [qC 106 11,qA 107 (loadF true 2) 16,qF 108 fun s => lookP prog s.m 93 (.nils) (s.get 106) (s.get 107) false,qC 109 20,⟨some 110, none, .c 0 (fun s => (.fn 59 [] [])) fun s => [(s.get 109)]⟩,qC 111 1,⟨some 112, none, .c 0 (fun s => (.fn 58 [] [])) fun s => [(s.get 108), (s.get 110), (s.get 111)]⟩,qC 21 112] K s := (den_regD hf r23_draw K s).trans (by kernel_rfl)
theorem r24_draw : drawOk (fun g => (ann g).pure) (modeOf (ann 18) (idOf r24)) (frzOf (ann 18) (idOf r24)) (opsOf r24) = true := drawOk_of (an := [0, 1, 0, 4, 15, 31, 0, 127, 255, 0, 0, 1536, 4095, 0, 16383]) (by kernel_rfl) (by kernel_rfl)
theorem r24_eq : den prog ann 18 (.code r24 :: K) s = mreg prog ann 18 none [] (some 15) [22] [qA 113 (fieldA 0) 7,qA 114 (loadF false 1) 113,qA 115 (fieldA 0) 16,qA 116 (loadF false 1) 115,qB 117 (idxSl 1) 114 116,qA 118 (loadF false 1) 117,qC 119 20,qB 120 (idxSl 1) 118 119,qA 121 (loadF false 1) 120,qC 122 8,qC 123 21,⟨some 124, none, .c 7 (fun s => (s.get 122)) fun s => [(s.get 123)]⟩,qF 125 fun s => bldA (plc [(0, 1), (1, 1)]) [.int .i64 0, .str []] [(0, (s.get 121)), (1, (s.get 124))],⟨some 22, none, .w false (some 13) fun s => newPtr s.m [.int .i64 0, .str []]⟩,⟨none, none, .w false (some 14) fun s => stA true 2 s.m (s.get 22) (s.get 125)⟩] K s := (den_regD hf r24_draw K s).trans (by kernel_rfl)
theorem r25_eq : den prog ann 18 (.code r25 :: K) s = mreg prog ann 18 none [] none [] [qC 127 10,qA 128 (loadF true 2) 22,qF 129 fun s => lookP prog s.m 93 (.str []) (s.get 127) (s.get 128) true,qC 126 129,qF 130 fun s => extA (s.get 126) 0,qF 131 fun s => extA (s.get 126) 1,qC 23 130,qC 24 131] K s := (den_reg hf _ K s).trans (by kernel_rfl)
theorem r26_eq : den prog ann 18 (.code r26 :: K) s = mreg prog ann 18 none [] none [] [qC 132 24] K s := (den_reg hf _ K s).trans (by kernel_rfl)
theorem i5_eq : den prog ann 18 (.code i5 :: K) s = ifV prog ann 18 132 i5t i5e K s (s.get 132) := den_if hf (by kernel_rfl) K s
theorem i5t_eq : den prog ann 18 (.code i5t :: K) s = den prog ann 18 (.code (.exit 3) :: K) s := den_flat hf (l := [(.exit 3)]) (by kernel_rfl) K s
theorem i5e_eq : den prog ann 18 (.code i5e :: K) s = den prog ann 18 (K) s := den_flat hf (l := []) (by kernel_rfl) K s
theorem r27_draw : drawOk (fun g => (ann g).pure) (modeOf (ann 18) (idOf r27)) (frzOf (ann 18) (idOf r27)) (opsOf r27) = true := drawOk_of (an := [0, 0, 0, 0, 0, 0, 48, 0, 128, 496, 0, 387, 2435, 7155, 16383]) (by kernel_rfl) (by kernel_rfl)
theorem r27_eq : den prog ann 18 (.code r27 :: K) s = mreg prog ann 18 none [] (some 15) [] [qC 133 10,qA 134 (loadF true 2) 22,qC 135 11,qA 136 (loadF true 2) 22,qC 137 10,qA 138 (loadF true 2) 16,qF 139 fun s => lookP prog s.m 93 (.str []) (s.get 137) (s.get 138) false,qC 140 20,⟨some 141, none, .c 0 (fun s => (.fn 59 [] [])) fun s => [(s.get 140)]⟩,qB 142 (binA prog .add 9) 139 141,qC 143 21,⟨some 144, none, .w false (some 11) fun s => entP prog s.m 93 (.str []) (s.get 133) (s.get 134)⟩,qF 145 fun s => extA (s.get 144) 1,⟨none, none, .w false (some 13) fun s => entS s.m (s.get 133) (s.get 145) (s.get 142)⟩,⟨none, none, .w false (some 14) fun s => updM prog s.m 93 (s.get 135) (s.get 136) (s.get 143)⟩] K s := (den_regD hf r27_draw K s).trans (by kernel_rfl)
theorem r28_eq : den prog ann 18 (.code r28 :: K) s = mreg prog ann 18 none [] none [] [qC 146 15,qA 147 (loadF true 2) 22,qF 148 fun s => bslF 1 (bslA 2 1 [.int .i64 0, .str []] [(0, (s.get 147))]),⟨some 149, none, .w false none fun s => appendA 2 24 s.m (s.get 146) (s.get 148)⟩,qC 15 149] K s := (den_reg hf _ K s).trans (by kernel_rfl)
theorem r29_eq : den prog ann 18 (.code r29 :: K) s = mreg prog ann 18 none [] none [] [qC 150 10,qF 151 fun s => mapLenA s.m (s.get 150),qF 152 fun s => binA prog .gtr 3 (s.get 151) (.int .i64 5000)] K s := (den_reg hf _ K s).trans (by kernel_rfl)
theorem i6_eq : den prog ann 18 (.code i6 :: K) s = ifV prog ann 18 152 i6t i6e K s (s.get 152) := den_if hf (by kernel_rfl) K s
theorem i6t_eq : den prog ann 18 (.code i6t :: K) s = den prog ann 18 (.code r30 :: .code .ret :: K) s := den_flat hf (l := [r30, .ret]) (by kernel_rfl) K s
theorem r30_eq : den prog ann 18 (.code r30 :: K) s = mreg prog ann 18 none [] none [] [qF 4 fun s => some (.str []),qF 5 fun s => some (.str []),qF 6 fun s => some (.int .i64 7)] K s := (den_reg hf _ K s).trans (by kernel_rfl)
theorem i6e_eq : den prog ann 18 (.code i6e :: K) s = den prog ann 18 (K) s := den_flat hf (l := []) (by kernel_rfl) K s
theorem r31_eq : den prog ann 18 (.code r31 :: K) s = mreg prog ann 18 (some [1, 7, 8, 10, 11, 12, 13, 14, 15, 16, 102, 103]) [] none [] [qF 153 fun s => binA prog .add 3 (s.get 103) (.int .i64 1),qC 103 153] K s := (den_reg hf _ K s).trans (by kernel_rfl)
theorem r11_eq : den prog ann 18 (.code r11 :: K) s = mreg prog ann 18 (some [1, 7, 8, 10, 11, 12, 13, 14, 15]) [] none [] [qC 65 15,qF 66 fun s => sliceSl 2 (s.get 65) (some (.int .i64 1)) none,qC 15 66] K s := (den_reg hf _ K s).trans (by kernel_rfl)
theorem r32_eq : den prog ann 18 (.code r32 :: K) s = mreg prog ann 18 (some [12, 13, 14]) [] none [] [qF 25 fun s => some (.nils)] K s := (den_reg hf _ K s).trans (by kernel_rfl)
theorem r33_eq : den prog ann 18 (.code r33 :: K) s = mreg prog ann 18 none [] none [] [qC 154 14,qA 155 lenSl 154,qF 156 fun s => some (.int .i64 0)] K s := (den_reg hf _ K s).trans (by kernel_rfl)
theorem k4_eq (K : List Item) (t : List (Nat × AV)) (m : Mem) : den prog ann 18 (.code k4 :: K) ⟨t, 241, m⟩ = L4 (get t 12) (get t 13) (get t 25) (get t 154) (get t 155) (get t 156) m K := den_loop_enter hf (b := l4) (id := 34) (l := [12, 13, 25, 154, 155, 156]) (by kernel_rfl) (by kernel_rfl) (by kernel_rfl) K _
theorem l4_eq (K : List Item) (t : List (Nat × AV)) (m : Mem) : den prog ann 18 (.inLoop l4 :: .inBlock 4 :: K) ⟨t, 241, m⟩ = L4 (get t 12) (get t 13) (get t 25) (get t 154) (get t 155) (get t 156) m K := den_loop_again hf (id := 34) (l := [12, 13, 25, 154, 155, 156]) (by kernel_rfl) (by kernel_rfl) (.inBlock 4 :: K) _
theorem L4_eq (x12 x13 x25 x154 x155 x156 : AV) (m : Mem) (K : List Item) : L4 x12 x13 x25 x154 x155 x156 m K = den prog ann 18 (.code r34 :: .code i7 :: .code k5 :: .code r45 :: .inLoop l4 :: .inBlock 4 :: K) ⟨[(12, x12), (13, x13), (25, x25), (154, x154), (155, x155), (156, x156)], 241, m⟩ := den_flat hf (l := [r34, i7, k5, r45]) (by kernel_rfl) _ _
theorem r34_eq : den prog ann 18 (.code r34 :: K) s = mreg prog ann 18 (some [12, 13, 25, 154, 155, 156]) [] none [] [qB 157 (binA prog .lss 3) 156 155] K s := (den_reg hf _ K s).trans (by kernel_rfl)
theorem i7_eq : den prog ann 18 (.code i7 :: K) s = ifV prog ann 18 157 i7t i7e K s (s.get 157) := den_if hf (by kernel_rfl) K s
theorem i7t_eq : den prog ann 18 (.code i7t :: K) s = den prog ann 18 (K) s := den_flat hf (l := []) (by kernel_rfl) K s
theorem i7e_eq : den prog ann 18 (.code i7e :: K) s = den prog ann 18 (.code (.exit 4) :: K) s := den_flat hf (l := [(.exit 4)]) (by kernel_rfl) K s
theorem k5_eq : den prog ann 18 (.code k5 :: K) s = den prog ann 18 (.code r35 :: .code r36 :: .code r37 :: .code r38 :: .code i8 :: .code r39 :: .code r40 :: .code k6 :: .inBlock 5 :: K) s := den_blk hf (b := blkOf k5) (l := [r35, r36, r37, r38, i8, r39, r40, k6]) (by kernel_rfl) (by kernel_rfl) K s
theorem r35_eq : den prog ann 18 (.code r35 :: K) s = mreg prog ann 18 none [] none [] [qB 158 (idxSl 1) 154 156,qF 159 fun s => loadA false 1 s.m (s.get 158),qC 27 159] K s := (den_reg hf _ K s).trans (by kernel_rfl)
theorem r36_eq : den prog ann 18 (.code r36 :: K) s = mreg prog ann 18 none [] none [] [qC 161 12,qC 162 27,qF 163 fun s => lookP prog s.m 9 (.str []) (s.get 161) (s.get 162) true,qC 160 163,qF 164 fun s => extA (s.get 160) 0,qF 165 fun s => extA (s.get 160) 1,qC 28 164,qC 29 165] K s := (den_reg hf _ K s).trans (by kernel_rfl)
theorem r37_eq : den prog ann 18 (.code r37 :: K) s = mreg prog ann 18 none [] none [] [qC 167 13,qC 168 27,qF 169 fun s => lookP prog s.m 9 (.str []) (s.get 167) (s.get 168) true,qC 166 169,qF 170 fun s => extA (s.get 166) 0,qF 171 fun s => extA (s.get 166) 1,qC 30 170,qC 31 171] K s := (den_reg hf _ K s).trans (by kernel_rfl)
theorem r38_eq : den prog ann 18 (.code r38 :: K) s = mreg prog ann 18 none [] none [] [qC 172 29,qA 173 (unA .not) 172,qC 174 173,⟨some 175, some (174, false), .v fun s => some (s.get 31)⟩,⟨some 176, some (174, false), .v fun s => unA .not (s.get 175)⟩,qF 177 fun s => pickA (s.get 174) (.bool true) (s.get 176)] K s := (den_reg hf _ K s).trans (by kernel_rfl)
theorem i8_eq : den prog ann 18 (.code i8 :: K) s = ifV prog ann 18 177 i8t i8e K s (s.get 177) := den_if hf (by kernel_rfl) K s
theorem i8t_eq : den prog ann 18 (.code i8t :: K) s = den prog ann 18 (.code (.exit 5) :: K) s := den_flat hf (l := [(.exit 5)]) (by kernel_rfl) K s
theorem i8e_eq : den prog ann 18 (.code i8e :: K) s = den prog ann 18 (K) s := den_flat hf (l := []) (by kernel_rfl) K s
theorem r39_eq : den prog ann 18 (.code r39 :: K) s = mreg prog ann 18 none [] none [] [qF 32 fun s => some (.fn 60 [] [])] K s := (den_reg hf _ K s).trans (by kernel_rfl)
theorem r40_eq : den prog ann 18 (.code r40 :: K) s = mreg prog ann 18 none [] none [] [qC 178 28,qC 179 30,⟨some 180, none, .w false none fun s => bslM s.m 2 (bslA 1 2 [.str []] [(0, (s.get 178)), (1, (s.get 179))])⟩,qC 33 180] K s := (den_reg hf _ K s).trans (by kernel_rfl)
theorem k6_eq : den prog ann 18 (.code k6 :: K) s = den prog ann 18 (.code r41 :: .code i9 :: .inBlock 6 :: K) s := den_blk hf (b := blkOf k6) (l := [r41, i9]) (by kernel_rfl) (by kernel_rfl) K s
theorem r41_eq : den prog ann 18 (.code r41 :: K) s = mreg prog ann 18 none [] none [] [qC 182 25,qF 183 fun s => binA prog .eql 57 (s.get 182) (.nils),qC 184 183,⟨some 185, some (184, false), .v fun s => some (s.get 32)⟩,⟨some 186, some (184, false), .v fun s => some (s.get 33)⟩,⟨some 187, some (184, false), .c 0 (fun s => (s.get 185)) fun s => [(s.get 186)]⟩,⟨some 188, some (184, false), .v fun s => some (s.get 32)⟩,⟨some 189, some (184, false), .v fun s => some (s.get 25)⟩,⟨some 190, some (184, false), .c 0 (fun s => (s.get 188)) fun s => [(s.get 189)]⟩,⟨some 191, some (184, false), .v fun s => binA prog .lss 3 (s.get 187) (s.get 190)⟩,qF 192 fun s => pickA (s.get 184) (.bool true) (s.get 191),qC 181 192] K s := (den_reg hf _ K s).trans (by kernel_rfl)
theorem i9_eq : den prog ann 18 (.code i9 :: K) s = ifV prog ann 18 181 i9t i9e K s (s.get 181) := den_if hf (by kernel_rfl) K s
theorem i9t_eq : den prog ann 18 (.code i9t :: K) s = den prog ann 18 (.code r42 :: K) s := den_flat hf (l := [r42]) (by kernel_rfl) K s
theorem r42_eq : den prog ann 18 (.code r42 :: K) s = mreg prog ann 18 none [] none [] [qC 193 33,qC 25 193] K s := (den_reg hf _ K s).trans (by kernel_rfl)
theorem i9e_eq : den prog ann 18 (.code i9e :: K) s = den prog ann 18 (.code r43 :: .code i10 :: K) s := den_flat hf (l := [r43, i10]) (by kernel_rfl) K s
theorem r43_draw : drawOk (fun g => (ann g).pure) (modeOf (ann 18) (idOf r43)) (frzOf (ann 18) (idOf r43)) (opsOf r43) = true := drawOk_of (an := [0, 0, 3, 0, 0, 31, 63, 127, 255, 511, 1023, 255, 2303, 6399, 16383, 32767, 65535, 131071, 262143, 524287, 131071, 1179647, 3276799, 8388607, 16777215, 33554431, 67108863, 134217727, 33554431, 301989887, 838860799, 2147483647, 4294967295, 8589934591, 17179869183, 34359738367, 68719476735]) (by kernel_rfl) (by kernel_rfl)
theorem r43_eq : den prog ann 18 (.code r43 :: K) s = mreg prog ann 18 none [] (some 37) [] [qC 195 32,qC 196 33,⟨some 197, none, .c 0 (fun s => (s.get 195)) fun s => [(s.get 196)]⟩,qC 198 32,qC 199 25,⟨some 200, none, .c 0 (fun s => (s.get 198)) fun s => [(s.get 199)]⟩,qB 201 (binA prog .eql 3) 197 200,qC 202 201,⟨some 203, some (202, true), .v fun s => some (s.get 33)⟩,⟨some 204, some (202, true), .v fun s => idxSl 1 (s.get 203) (.int .i64 0)⟩,⟨some 205, some (202, true), .v fun s => loadA false 1 s.m (s.get 204)⟩,⟨some 206, some (202, true), .v fun s => some (s.get 25)⟩,⟨some 207, some (202, true), .v fun s => idxSl 1 (s.get 206) (.int .i64 0)⟩,⟨some 208, some (202, true), .v fun s => loadA false 1 s.m (s.get 207)⟩,⟨some 209, some (202, true), .c 0 (fun s => (.fn 61 [] [])) fun s => [(s.get 205), (s.get 208)]⟩,⟨some 210, some (202, true), .v fun s => binA prog .lss 3 (s.get 209) (.int .i64 0)⟩,⟨some 211, some (202, true), .v fun s => some (s.get 210)⟩,⟨some 212, some (211, false), .v fun s => some (s.get 33)⟩,⟨some 213, some (211, false), .v fun s => idxSl 1 (s.get 212) (.int .i64 0)⟩,⟨some 214, some (211, false), .v fun s => loadA false 1 s.m (s.get 213)⟩,⟨some 215, some (211, false), .v fun s => some (s.get 25)⟩,⟨some 216, some (211, false), .v fun s => idxSl 1 (s.get 215) (.int .i64 0)⟩,⟨some 217, some (211, false), .v fun s => loadA false 1 s.m (s.get 216)⟩,⟨some 218, some (211, false), .v fun s => binA prog .eql 9 (s.get 214) (s.get 217)⟩,⟨some 219, some (211, false), .v fun s => some (s.get 218)⟩,⟨some 220, some (219, true), .v fun s => some (s.get 33)⟩,⟨some 221, some (219, true), .v fun s => idxSl 1 (s.get 220) (.int .i64 1)⟩,⟨some 222, some (219, true), .v fun s => loadA false 1 s.m (s.get 221)⟩,⟨some 223, some (219, true), .v fun s => some (s.get 25)⟩,⟨some 224, some (219, true), .v fun s => idxSl 1 (s.get 223) (.int .i64 1)⟩,⟨some 225, some (219, true), .v fun s => loadA false 1 s.m (s.get 224)⟩,⟨some 226, some (219, true), .c 0 (fun s => (.fn 61 [] [])) fun s => [(s.get 222), (s.get 225)]⟩,⟨some 227, some (219, true), .v fun s => binA prog .lss 3 (s.get 226) (.int .i64 0)⟩,⟨some 228, some (211, false), .v fun s => pickA (s.get 219) (s.get 227) (.bool false)⟩,⟨some 229, some (202, true), .v fun s => pickA (s.get 211) (.bool true) (s.get 228)⟩,qF 230 fun s => pickA (s.get 202) (s.get 229) (.bool false),qC 194 230] K s := (den_regD hf r43_draw K s).trans (by kernel_rfl)
theorem i10_eq : den prog ann 18 (.code i10 :: K) s = ifV prog ann 18 194 i10t i10e K s (s.get 194) := den_if hf (by kernel_rfl) K s
theorem i10t_eq : den prog ann 18 (.code i10t :: K) s = den prog ann 18 (.code r44 :: K) s := den_flat hf (l := [r44]) (by kernel_rfl) K s
theorem r44_eq : den prog ann 18 (.code r44 :: K) s = mreg prog ann 18 none [] none [] [qC 231 33,qC 25 231] K s := (den_reg hf _ K s).trans (by kernel_rfl)
theorem i10e_eq : den prog ann 18 (.code i10e :: K) s = den prog ann 18 (K) s := den_flat hf (l := []) (by kernel_rfl) K s
theorem r45_eq : den prog ann 18 (.code r45 :: K) s = mreg prog ann 18 (some [12, 13, 25, 154, 155, 156]) [] none [] [qF 232 fun s => binA prog .add 3 (s.get 156) (.int .i64 1),qC 156 232] K s := (den_reg hf _ K s).trans (by kernel_rfl)
theorem r46_eq : den prog ann 18 (.code r46 :: K) s = mreg prog ann 18 (some [25]) [] none [] [qC 233 25,qF 234 fun s => binA prog .eql 57 (s.get 233) (.nils)] K s := (den_reg hf _ K s).trans (by kernel_rfl)
theorem i11_eq : den prog ann 18 (.code i11 :: K) s = ifV prog ann 18 234 i11t i11e K s (s.get 234) := den_if hf (by kernel_rfl) K s
theorem i11t_eq : den prog ann 18 (.code i11t :: K) s = den prog ann 18 (.code r47 :: .code .ret :: K) s := den_flat hf (l := [r47, .ret]) (by kernel_rfl) K s
theorem r47_eq : den prog ann 18 (.code r47 :: K) s = mreg prog ann 18 none [] none [] [qF 4 fun s => some (.str []),qF 5 fun s => some (.str []),qF 6 fun s => some (.int .i64 5)] K s := (den_reg hf _ K s).trans (by kernel_rfl)
theorem i11e_eq : den prog ann 18 (.code i11e :: K) s = den prog ann 18 (K) s := den_flat hf (l := []) (by kernel_rfl) K s
theorem r48_draw : drawOk (fun g => (ann g).pure) (modeOf (ann 18) (idOf r48)) (frzOf (ann 18) (idOf r48)) (opsOf r48) = true := drawOk_of (an := [0, 1, 3, 0, 8, 24, 7, 127, 255]) (by kernel_rfl) (by kernel_rfl)
theorem r48_eq : den prog ann 18 (.code r48 :: K) s = mreg prog ann 18 none [] (some 9) [] [qC 235 25,qF 236 fun s => idxSl 1 (s.get 235) (.int .i64 0),qF 237 fun s => loadA false 1 s.m (s.get 236),qC 238 25,qF 239 fun s => idxSl 1 (s.get 238) (.int .i64 1),qF 240 fun s => loadA false 1 s.m (s.get 239),qC 4 237,qC 5 240,qF 6 fun s => some (.int .i64 0)] K s := (den_regD hf r48_draw K s).trans (by kernel_rfl)
theorem ret_eq : den prog ann 18 (.code .ret :: K) s = finM true [fun s => some (s.get 4), fun s => some (s.get 5), fun s => some (s.get 6)] s := (den_ret hf K s).trans (by kernel_rfl)
theorem nil_eq (s : St) : den prog ann 18 [] s = finM true [fun s => some (s.get 4), fun s => some (s.get 5), fun s => some (s.get 6)] s := (den_nil hf s).trans (by kernel_rfl)
theorem inBlock_eq (id : Nat) (K : List Item) (s : St) : den prog ann 18 (.inBlock id :: K) s = den prog ann 18 K s := den_inBlock hf id K s
theorem exit_eq (id : Nat) (K : List Item) (s : St) : den prog ann 18 (.code (.exit id) :: K) s = exitV prog ann 18 (exitTo id K) s := den_exitV hf id K s
theorem call_eq (v0 v1 : AV) (m : Mem) (h : closedL [v0, v1] = true) : denC prog ann 18 [v0, v1] m = (den prog ann 18 [.code b] ⟨[(0, v0), (1, v1)], 241, Mem.empty⟩).bind fun r => some (r.1, m) := (denC_pure hf (b := b) (by kernel_rfl) (by kernel_rfl) (by kernel_rfl) h m).trans (by kernel_rfl)
theorem pure_eq : (ann 18).pure = true := by kernel_rfl
attribute [simp] b_eq r0_eq r1_eq i0_eq i0t_eq r2_eq i0e_eq r3_eq r4_eq r5_eq r6_eq r7_eq r8_eq r9_eq k0_eq l0_eq r10_eq i1_eq i1t_eq i1e_eq k1_eq r12_eq r13_eq r14_eq i2_eq i2t_eq r15_eq i2e_eq r16_eq r17_eq i3_eq i3t_eq r18_eq r19_eq i3e_eq r20_eq k2_eq l2_eq r21_eq i4_eq i4t_eq i4e_eq k3_eq r22_eq r23_eq r24_eq r25_eq r26_eq i5_eq i5t_eq i5e_eq r27_eq r28_eq r29_eq i6_eq i6t_eq r30_eq i6e_eq r31_eq r11_eq r32_eq r33_eq k4_eq l4_eq r34_eq i7_eq i7t_eq i7e_eq k5_eq r35_eq r36_eq r37_eq r38_eq i8_eq i8t_eq i8e_eq r39_eq r40_eq k6_eq r41_eq i9_eq i9t_eq r42_eq i9e_eq r43_eq i10_eq i10t_eq r44_eq i10e_eq r45_eq r46_eq i11_eq i11t_eq r47_eq i11e_eq r48_eq ret_eq nil_eq inBlock_eq exit_eq pure_eq
end
end brand_Short
namespace brand_Short_1
noncomputable section
variable (K : List Item) (s : St)
def b : Code := (Try.f57.body).getD .skip
theorem hf : prog.funcs[57]? = some Try.f57 := by kernel_rfl
def r0 := findReg b 0
def r1 := findReg b 1
def r2 := findReg b 2
def k0 := findBlk b 0
def l0 := loopOf k0
def L0 (x3 x6 x7 x8 : AV) (m : Mem) (K : List Item) : Option Res := den prog ann 57 (.code l0 :: .inLoop l0 :: .inBlock 0 :: K) ⟨[(3, x3), (6, x6), (7, x7), (8, x8)], 18, m⟩
def r3 := findReg b 3
def i0 := findCond b 0
def i0t := thenOf i0
def i0e := elseOf i0
def k1 := findBlk b 1
def r4 := findReg b 4
def r5 := findReg b 5
def r6 := findReg b 6
def r7 := findReg b 7
theorem b_eq : den prog ann 57 (.code b :: K) s = den prog ann 57 (.code r0 :: .code r1 :: .code r2 :: .code k0 :: .code r7 :: .code .ret :: K) s := den_flat hf (l := [r0, r1, r2, k0, r7, .ret]) (by kernel_rfl) K s
theorem r0_eq : den prog ann 57 (.code r0 :: K) s = mreg prog ann 57 none [] none [] [qF 2 fun s => some (.str [])] K s := (den_reg hf _ K s).trans (by kernel_rfl)
theorem r1_eq : den prog ann 57 (.code r1 :: K) s = mreg prog ann 57 none [] none [] [qF 3 fun s => some (.str [])] K s := (den_reg hf _ K s).trans (by kernel_rfl)
theorem r2_eq : den prog ann 57 (.code r2 :: K) s = mreg prog ann 57 none [] none [] [qC 6 0,qA 7 lenSl 6,qF 8 fun s => some (.int .i64 0)] K s := (den_reg hf _ K s).trans (by kernel_rfl)
theorem k0_eq (K : List Item) (t : List (Nat × AV)) (m : Mem) : den prog ann 57 (.code k0 :: K) ⟨t, 18, m⟩ = L0 (get t 3) (get t 6) (get t 7) (get t 8) m K := den_loop_enter hf (b := l0) (id := 3) (l := [3, 6, 7, 8]) (by kernel_rfl) (by kernel_rfl) (by kernel_rfl) K _
theorem l0_eq (K : List Item) (t : List (Nat × AV)) (m : Mem) : den prog ann 57 (.inLoop l0 :: .inBlock 0 :: K) ⟨t, 18, m⟩ = L0 (get t 3) (get t 6) (get t 7) (get t 8) m K := den_loop_again hf (id := 3) (l := [3, 6, 7, 8]) (by kernel_rfl) (by kernel_rfl) (.inBlock 0 :: K) _
theorem L0_eq (x3 x6 x7 x8 : AV) (m : Mem) (K : List Item) : L0 x3 x6 x7 x8 m K = den prog ann 57 (.code r3 :: .code i0 :: .code k1 :: .code r6 :: .inLoop l0 :: .inBlock 0 :: K) ⟨[(3, x3), (6, x6), (7, x7), (8, x8)], 18, m⟩ := den_flat hf (l := [r3, i0, k1, r6]) (by kernel_rfl) _ _
theorem r3_eq : den prog ann 57 (.code r3 :: K) s = mreg prog ann 57 (some [3, 6, 7, 8]) [] none [] [qB 9 (binA prog .lss 3) 8 7] K s := (den_reg hf _ K s).trans (by kernel_rfl)
theorem i0_eq : den prog ann 57 (.code i0 :: K) s = ifV prog ann 57 9 i0t i0e K s (s.get 9) := den_if hf (by kernel_rfl) K s
theorem i0t_eq : den prog ann 57 (.code i0t :: K) s = den prog ann 57 (K) s := den_flat hf (l := []) (by kernel_rfl) K s
theorem i0e_eq : den prog ann 57 (.code i0e :: K) s = den prog ann 57 (.code (.exit 0) :: K) s := den_flat hf (l := [(.exit 0)]) (by kernel_rfl) K s
theorem k1_eq : den prog ann 57 (.code k1 :: K) s = den prog ann 57 (.code r4 :: .code r5 :: .inBlock 1 :: K) s := den_blk hf (b := blkOf k1) (l := [r4, r5]) (by kernel_rfl) (by kernel_rfl) K s
theorem r4_eq : den prog ann 57 (.code r4 :: K) s = mreg prog ann 57 none [] none [] [qB 10 (idxSl 1) 6 8,qA 11 (loadF false 1) 10,qC 5 11] K s := (den_reg hf _ K s).trans (by kernel_rfl)
theorem r5_eq : den prog ann 57 (.code r5 :: K) s = mreg prog ann 57 none [] none [] [qC 12 3,qC 13 5,qA 14 (binA prog .add 9 (.str [32])) 13,qB 15 (binA prog .add 9) 12 14,qC 3 15] K s := (den_reg hf _ K s).trans (by kernel_rfl)
theorem r6_eq : den prog ann 57 (.code r6 :: K) s = mreg prog ann 57 (some [3, 6, 7, 8]) [] none [] [qF 16 fun s => binA prog .add 3 (s.get 8) (.int .i64 1),qC 8 16] K s := (den_reg hf _ K s).trans (by kernel_rfl)
theorem r7_eq : den prog ann 57 (.code r7 :: K) s = mreg prog ann 57 (some [3]) [] none [] [qC 17 3,qC 2 17] K s := (den_reg hf _ K s).trans (by kernel_rfl)
theorem ret_eq : den prog ann 57 (.code .ret :: K) s = finM true [fun s => some (s.get 2)] s := (den_ret hf K s).trans (by kernel_rfl)
theorem nil_eq (s : St) : den prog ann 57 [] s = finM true [fun s => some (s.get 2)] s := (den_nil hf s).trans (by kernel_rfl)
theorem inBlock_eq (id : Nat) (K : List Item) (s : St) : den prog ann 57 (.inBlock id :: K) s = den prog ann 57 K s := den_inBlock hf id K s
theorem exit_eq (id : Nat) (K : List Item) (s : St) : den prog ann 57 (.code (.exit id) :: K) s = exitV prog ann 57 (exitTo id K) s := den_exitV hf id K s
theorem call_eq (v0 : AV) (m : Mem) (h : closedL [v0] = true) : denC prog ann 57 [v0] m = (den prog ann 57 [.code b] ⟨[(0, v0)], 18, Mem.empty⟩).bind fun r => some (r.1, m) := (denC_pure hf (b := b) (by kernel_rfl) (by kernel_rfl) (by kernel_rfl) h m).trans (by kernel_rfl)
theorem pure_eq : (ann 57).pure = true := by kernel_rfl
attribute [simp] b_eq r0_eq r1_eq r2_eq k0_eq l0_eq r3_eq i0_eq i0t_eq i0e_eq k1_eq r4_eq r5_eq r6_eq r7_eq ret_eq nil_eq inBlock_eq exit_eq pure_eq
end
end brand_Short_1
namespace brand_parts
noncomputable section
variable (K : List Item) (s : St)
def b : Code := (Try.f58.body).getD .skip
theorem hf : prog.funcs[58]? = some Try.f58 := by kernel_rfl
def r0 := findReg b 0
def r1 := findReg b 1
def r2 := findReg b 2
def k0 := findBlk b 0
def l0 := loopOf k0
def L0 (x0 x1 x2 x7 x12 x13 x14 : AV) (m : Mem) (K : List Item) : Option Res := den prog ann 58 (.code l0 :: .inLoop l0 :: .inBlock 0 :: K) ⟨[(0, x0), (1, x1), (2, x2), (7, x7), (12, x12), (13, x13), (14, x14)], 40, m⟩
def r3 := findReg b 3
def i0 := findCond b 0
def i0t := thenOf i0
def i0e := elseOf i0
def k1 := findBlk b 1
def r4 := findReg b 4
def r5 := findReg b 5
def i1 := findCond b 1
def i1t := thenOf i1
def i1e := elseOf i1
def r6 := findReg b 6
def r7 := findReg b 7
def r8 := findReg b 8
def r9 := findReg b 9
theorem b_eq : den prog ann 58 (.code b :: K) s = den prog ann 58 (.code r0 :: .code r1 :: .code r2 :: .code k0 :: .code r8 :: .code r9 :: .code .ret :: K) s := den_flat hf (l := [r0, r1, r2, k0, r8, r9, .ret]) (by kernel_rfl) K s
theorem r0_eq : den prog ann 58 (.code r0 :: K) s = mreg prog ann 58 none [] none [] [qF 6 fun s => some (.nils)] K s := (den_reg hf _ K s).trans (by kernel_rfl)
theorem r1_eq : den prog ann 58 (.code r1 :: K) s = mreg prog ann 58 none [] none [] [qC 10 0,⟨some 11, none, .c 0 (fun s => (.fn 83 [] [])) fun s => [(s.get 10)]⟩,qC 7 11] K s := (den_reg hf _ K s).trans (by kernel_rfl)
theorem r2_eq : den prog ann 58 (.code r2 :: K) s = mreg prog ann 58 none [] none [] [qC 12 0,qA 13 lenSl 12,qF 14 fun s => some (.int .i64 0)] K s := (den_reg hf _ K s).trans (by kernel_rfl)
theorem k0_eq (K : List Item) (t : List (Nat × AV)) (m : Mem) : den prog ann 58 (.code k0 :: K) ⟨t, 40, m⟩ = L0 (get t 0) (get t 1) (get t 2) (get t 7) (get t 12) (get t 13) (get t 14) m K := den_loop_enter hf (b := l0) (id := 3) (l := [0, 1, 2, 7, 12, 13, 14]) (by kernel_rfl) (by kernel_rfl) (by kernel_rfl) K _
theorem l0_eq (K : List Item) (t : List (Nat × AV)) (m : Mem) : den prog ann 58 (.inLoop l0 :: .inBlock 0 :: K) ⟨t, 40, m⟩ = L0 (get t 0) (get t 1) (get t 2) (get t 7) (get t 12) (get t 13) (get t 14) m K := den_loop_again hf (id := 3) (l := [0, 1, 2, 7, 12, 13, 14]) (by kernel_rfl) (by kernel_rfl) (.inBlock 0 :: K) _
theorem L0_eq (x0 x1 x2 x7 x12 x13 x14 : AV) (m : Mem) (K : List Item) : L0 x0 x1 x2 x7 x12 x13 x14 m K = den prog ann 58 (.code r3 :: .code i0 :: .code k1 :: .code r7 :: .inLoop l0 :: .inBlock 0 :: K) ⟨[(0, x0), (1, x1), (2, x2), (7, x7), (12, x12), (13, x13), (14, x14)], 40, m⟩ := den_flat hf (l := [r3, i0, k1, r7]) (by kernel_rfl) _ _
theorem r3_eq : den prog ann 58 (.code r3 :: K) s = mreg prog ann 58 (some [0, 1, 2, 7, 12, 13, 14]) [] none [] [qB 15 (binA prog .lss 3) 14 13] K s := (den_reg hf _ K s).trans (by kernel_rfl)
theorem i0_eq : den prog ann 58 (.code i0 :: K) s = ifV prog ann 58 15 i0t i0e K s (s.get 15) := den_if hf (by kernel_rfl) K s
theorem i0t_eq : den prog ann 58 (.code i0t :: K) s = den prog ann 58 (K) s := den_flat hf (l := []) (by kernel_rfl) K s
theorem i0e_eq : den prog ann 58 (.code i0e :: K) s = den prog ann 58 (.code (.exit 0) :: K) s := den_flat hf (l := [(.exit 0)]) (by kernel_rfl) K s
theorem k1_eq : den prog ann 58 (.code k1 :: K) s = den prog ann 58 (.code r4 :: .code r5 :: .code i1 :: .inBlock 1 :: K) s := den_blk hf (b := blkOf k1) (l := [r4, r5, i1]) (by kernel_rfl) (by kernel_rfl) K s
theorem r4_eq : den prog ann 58 (.code r4 :: K) s = mreg prog ann 58 none [] none [] [qB 16 (idxSl 1) 12 14,qA 17 (loadF false 1) 16,qC 9 17] K s := (den_reg hf _ K s).trans (by kernel_rfl)
theorem r5_eq : den prog ann 58 (.code r5 :: K) s = mreg prog ann 58 none [] none [] [qC 18 9,qA 19 lenStr 18,qC 20 2,qB 21 (binA prog .lss 3) 19 20,qC 22 21,⟨some 23, some (22, true), .v fun s => some (s.get 0)⟩,⟨some 24, some (22, true), .v fun s => some (s.get 9)⟩,⟨some 25, some (22, true), .v fun s => some (s.get 1)⟩,⟨some 26, some (22, true), .v fun s => binA prog .add 9 (s.get 24) (s.get 25)⟩,⟨some 27, some (22, true), .c 0 (fun s => (.fn 84 [] [])) fun s => [(s.get 23), (s.get 26)]⟩,⟨some 28, some (22, true), .v fun s => unA .not (s.get 27)⟩,qF 29 fun s => pickA (s.get 22) (s.get 28) (.bool false)] K s := (den_reg hf _ K s).trans (by kernel_rfl)
theorem i1_eq : den prog ann 58 (.code i1 :: K) s = ifV prog ann 58 29 i1t i1e K s (s.get 29) := den_if hf (by kernel_rfl) K s
theorem i1t_eq : den prog ann 58 (.code i1t :: K) s = den prog ann 58 (.code r6 :: K) s := den_flat hf (l := [r6]) (by kernel_rfl) K s
theorem r6_eq : den prog ann 58 (.code r6 :: K) s = mreg prog ann 58 none [] none [] [qC 30 7,qC 31 9,qC 32 1,qB 33 (binA prog .add 9) 31 32,qF 34 fun s => bslF 1 (bslA 1 1 [.str []] [(0, (s.get 33))]),⟨some 35, none, .w false none fun s => appendA 1 16 s.m (s.get 30) (s.get 34)⟩,qC 7 35] K s := (den_reg hf _ K s).trans (by kernel_rfl)
theorem i1e_eq : den prog ann 58 (.code i1e :: K) s = den prog ann 58 (K) s := den_flat hf (l := []) (by kernel_rfl) K s
theorem r7_eq : den prog ann 58 (.code r7 :: K) s = mreg prog ann 58 (some [0, 1, 2, 7, 12, 13, 14]) [] none [] [qF 36 fun s => binA prog .add 3 (s.get 14) (.int .i64 1),qC 14 36] K s := (den_reg hf _ K s).trans (by kernel_rfl)
theorem r8_eq : den prog ann 58 (.code r8 :: K) s = mreg prog ann 58 (some [7]) [] none [] [qC 37 7,⟨some 38, none, .c 0 (fun s => (.fn 85 [] [])) fun s => [(s.get 37)]⟩] K s := (den_reg hf _ K s).trans (by kernel_rfl)
theorem r9_eq : den prog ann 58 (.code r9 :: K) s = mreg prog ann 58 none [] none [] [qC 39 7,qC 6 39] K s := (den_reg hf _ K s).trans (by kernel_rfl)
theorem ret_eq : den prog ann 58 (.code .ret :: K) s = finM true [fun s => some (s.get 6)] s := (den_ret hf K s).trans (by kernel_rfl)
theorem nil_eq (s : St) : den prog ann 58 [] s = finM true [fun s => some (s.get 6)] s := (den_nil hf s).trans (by kernel_rfl)
theorem inBlock_eq (id : Nat) (K : List Item) (s : St) : den prog ann 58 (.inBlock id :: K) s = den prog ann 58 K s := den_inBlock hf id K s
theorem exit_eq (id : Nat) (K : List Item) (s : St) : den prog ann 58 (.code (.exit id) :: K) s = exitV prog ann 58 (exitTo id K) s := den_exitV hf id K s
theorem call_eq (v0 v1 v2 : AV) (m : Mem) (h : closedL [v0, v1, v2] = true) : denC prog ann 58 [v0, v1, v2] m = (den prog ann 58 [.code b] ⟨[(0, v0), (1, v1), (2, v2)], 40, Mem.empty⟩).bind fun r => some (r.1, m) := (denC_pure hf (b := b) (by kernel_rfl) (by kernel_rfl) (by kernel_rfl) h m).trans (by kernel_rfl)
theorem pure_eq : (ann 58).pure = true := by kernel_rfl
attribute [simp] b_eq r0_eq r1_eq r2_eq k0_eq l0_eq r3_eq i0_eq i0t_eq i0e_eq k1_eq r4_eq r5_eq i1_eq i1t_eq r6_eq i1e_eq r7_eq r8_eq r9_eq ret_eq nil_eq inBlock_eq exit_eq pure_eq
end
end brand_parts
namespace brand_Short_2
noncomputable section
variable (K : List Item) (s : St)
def b : Code := (Try.f60.body).getD .skip
theorem hf : prog.funcs[60]? = some Try.f60 := by kernel_rfl
def r0 := findReg b 0
def r1 := findReg b 1
theorem b_eq : den prog ann 60 (.code b :: K) s = den prog ann 60 (.code r0 :: .code r1 :: .code .ret :: K) s := den_flat hf (l := [r0, r1, .ret]) (by kernel_rfl) K s
theorem r0_eq : den prog ann 60 (.code r0 :: K) s = mreg prog ann 60 none [] none [] [qF 2 fun s => some (.int .i64 0)] K s := (den_reg hf _ K s).trans (by kernel_rfl)
theorem r1_draw : drawOk (fun g => (ann g).pure) (modeOf (ann 60) (idOf r1)) (frzOf (ann 60) (idOf r1)) (opsOf r1) = true := drawOk_of (an := [0, 1, 3, 7, 0, 16, 48, 112, 255, 511]) (by kernel_rfl) (by kernel_rfl)
theorem r1_eq : den prog ann 60 (.code r1 :: K) s = mreg prog ann 60 none [] (some 10) [] [qC 3 0,qF 4 fun s => idxSl 1 (s.get 3) (.int .i64 0),qA 5 (loadF false 1) 4,qA 6 lenStr 5,qC 7 0,qF 8 fun s => idxSl 1 (s.get 7) (.int .i64 1),qA 9 (loadF false 1) 8,qA 10 lenStr 9,qF 11 fun s => foldA max2A (s.get 6) [(s.get 10)],qC 2 11] K s := (den_regD hf r1_draw K s).trans (by kernel_rfl)
theorem ret_eq : den prog ann 60 (.code .ret :: K) s = finM true [fun s => some (s.get 2)] s := (den_ret hf K s).trans (by kernel_rfl)
theorem nil_eq (s : St) : den prog ann 60 [] s = finM true [fun s => some (s.get 2)] s := (den_nil hf s).trans (by kernel_rfl)
theorem inBlock_eq (id : Nat) (K : List Item) (s : St) : den prog ann 60 (.inBlock id :: K) s = den prog ann 60 K s := den_inBlock hf id K s
theorem exit_eq (id : Nat) (K : List Item) (s : St) : den prog ann 60 (.code (.exit id) :: K) s = exitV prog ann 60 (exitTo id K) s := den_exitV hf id K s
theorem call_eq (v0 : AV) (m : Mem) (h : closedL [v0] = true) : denC prog ann 60 [v0] m = (den prog ann 60 [.code b] ⟨[(0, v0)], 12, Mem.empty⟩).bind fun r => some (r.1, m) := (denC_pure hf (b := b) (by kernel_rfl) (by kernel_rfl) (by kernel_rfl) h m).trans (by kernel_rfl)
theorem pure_eq : (ann 60).pure = true := by kernel_rfl
attribute [simp] b_eq r0_eq r1_eq ret_eq nil_eq inBlock_eq exit_eq pure_eq
end
end brand_Short_2
namespace brand_compare
noncomputable section
variable (K : List Item) (s : St)
def b : Code := (Try.f61.body).getD .skip
theorem hf : prog.funcs[61]? = some Try.f61 := by kernel_rfl
def r0 := findReg b 0
def r1 := findReg b 1
def i0 := findCond b 0
def i0t := thenOf i0
def i0e := elseOf i0
def r2 := findReg b 2
def r3 := findReg b 3
theorem b_eq : den prog ann 61 (.code b :: K) s = den prog ann 61 (.code r0 :: .code r1 :: .code i0 :: .code r3 :: .code .ret :: K) s := den_flat hf (l := [r0, r1, i0, r3, .ret]) (by kernel_rfl) K s
theorem r0_eq : den prog ann 61 (.code r0 :: K) s = mreg prog ann 61 none [] none [] [qF 4 fun s => some (.int .i64 0)] K s := (den_reg hf _ K s).trans (by kernel_rfl)
theorem r1_eq : den prog ann 61 (.code r1 :: K) s = mreg prog ann 61 none [] none [] [qC 5 0,qA 6 lenStr 5,qC 7 1,qA 8 lenStr 7,qB 9 (binA prog .neq 3) 6 8] K s := (den_reg hf _ K s).trans (by kernel_rfl)
theorem i0_eq : den prog ann 61 (.code i0 :: K) s = ifV prog ann 61 9 i0t i0e K s (s.get 9) := den_if hf (by kernel_rfl) K s
theorem i0t_eq : den prog ann 61 (.code i0t :: K) s = den prog ann 61 (.code r2 :: .code .ret :: K) s := den_flat hf (l := [r2, .ret]) (by kernel_rfl) K s
theorem r2_eq : den prog ann 61 (.code r2 :: K) s = mreg prog ann 61 none [] none [] [qC 10 0,qA 11 lenStr 10,qC 12 1,qA 13 lenStr 12,qB 14 (binA prog .sub 3) 11 13,qC 4 14] K s := (den_reg hf _ K s).trans (by kernel_rfl)
theorem i0e_eq : den prog ann 61 (.code i0e :: K) s = den prog ann 61 (K) s := den_flat hf (l := []) (by kernel_rfl) K s
theorem r3_eq : den prog ann 61 (.code r3 :: K) s = mreg prog ann 61 none [] none [] [qC 15 0,qC 16 1,⟨some 17, none, .c 0 (fun s => (.fn 86 [] [])) fun s => [(s.get 15), (s.get 16)]⟩,qC 4 17] K s := (den_reg hf _ K s).trans (by kernel_rfl)
theorem ret_eq : den prog ann 61 (.code .ret :: K) s = finM true [fun s => some (s.get 4)] s := (den_ret hf K s).trans (by kernel_rfl)
theorem nil_eq (s : St) : den prog ann 61 [] s = finM true [fun s => some (s.get 4)] s := (den_nil hf s).trans (by kernel_rfl)
theorem inBlock_eq (id : Nat) (K : List Item) (s : St) : den prog ann 61 (.inBlock id :: K) s = den prog ann 61 K s := den_inBlock hf id K s
theorem exit_eq (id : Nat) (K : List Item) (s : St) : den prog ann 61 (.code (.exit id) :: K) s = exitV prog ann 61 (exitTo id K) s := den_exitV hf id K s
theorem call_eq (v0 v1 : AV) (m : Mem) (h : closedL [v0, v1] = true) : denC prog ann 61 [v0, v1] m = (den prog ann 61 [.code b] ⟨[(0, v0), (1, v1)], 18, Mem.empty⟩).bind fun r => some (r.1, m) := (denC_pure hf (b := b) (by kernel_rfl) (by kernel_rfl) (by kernel_rfl) h m).trans (by kernel_rfl)
theorem pure_eq : (ann 61).pure = true := by kernel_rfl
attribute [simp] b_eq r0_eq r1_eq i0_eq i0t_eq r2_eq i0e_eq r3_eq ret_eq nil_eq inBlock_eq exit_eq pure_eq
end
end brand_compare
namespace slices_Clone_string
noncomputable section
variable (K : List Item) (s : St)
def b : Code := (Try.f83.body).getD .skip
theorem hf : prog.funcs[83]? = some Try.f83 := by kernel_rfl
def r0 := findReg b 0
def r1 := findReg b 1
def i0 := findCond b 0
def i0t := thenOf i0
def i0e := elseOf i0
def r2 := findReg b 2
def r3 := findReg b 3
theorem b_eq : den prog ann 83 (.code b :: K) s = den prog ann 83 (.code r0 :: .code r1 :: .code i0 :: .code r3 :: .code .ret :: K) s := den_flat hf (l := [r0, r1, i0, r3, .ret]) (by kernel_rfl) K s
theorem r0_eq : den prog ann 83 (.code r0 :: K) s = mreg prog ann 83 none [] none [] [qF 2 fun s => some (.nils)] K s := (den_reg hf _ K s).trans (by kernel_rfl)
theorem r1_eq : den prog ann 83 (.code r1 :: K) s = mreg prog ann 83 none [] none [] [qC 3 0,qF 4 fun s => binA prog .eql 57 (s.get 3) (.nils)] K s := (den_reg hf _ K s).trans (by kernel_rfl)
theorem i0_eq : den prog ann 83 (.code i0 :: K) s = ifV prog ann 83 4 i0t i0e K s (s.get 4) := den_if hf (by kernel_rfl) K s
theorem i0t_eq : den prog ann 83 (.code i0t :: K) s = den prog ann 83 (.code r2 :: .code .ret :: K) s := den_flat hf (l := [r2, .ret]) (by kernel_rfl) K s
theorem r2_eq : den prog ann 83 (.code r2 :: K) s = mreg prog ann 83 none [] none [] [qF 2 fun s => some (.nils)] K s := (den_reg hf _ K s).trans (by kernel_rfl)
theorem i0e_eq : den prog ann 83 (.code i0e :: K) s = den prog ann 83 (K) s := den_flat hf (l := []) (by kernel_rfl) K s
theorem r3_eq : den prog ann 83 (.code r3 :: K) s = mreg prog ann 83 none [] none [] [⟨some 5, none, .w false none fun s => bslM s.m 0 (bslA 1 0 [.str []] [])⟩,qC 6 0,⟨some 7, none, .w false none fun s => appendA 1 16 s.m (s.get 5) (s.get 6)⟩,qC 2 7] K s := (den_reg hf _ K s).trans (by kernel_rfl)
theorem ret_eq : den prog ann 83 (.code .ret :: K) s = finM false [fun s => some (s.get 2)] s := (den_ret hf K s).trans (by kernel_rfl)
theorem nil_eq (s : St) : den prog ann 83 [] s = finM false [fun s => some (s.get 2)] s := (den_nil hf s).trans (by kernel_rfl)
theorem inBlock_eq (id : Nat) (K : List Item) (s : St) : den prog ann 83 (.inBlock id :: K) s = den prog ann 83 K s := den_inBlock hf id K s
theorem exit_eq (id : Nat) (K : List Item) (s : St) : den prog ann 83 (.code (.exit id) :: K) s = exitV prog ann 83 (exitTo id K) s := den_exitV hf id K s
theorem call_eq (v0 : AV) (m : Mem) : denC prog ann 83 [v0] m = den prog ann 83 [.code b] ⟨[(0, v0)], 8, m⟩ := (denC_impure hf (b := b) (by kernel_rfl) (by kernel_rfl) (by kernel_rfl) m).trans (by kernel_rfl)
theorem pure_eq : (ann 83).pure = false := by kernel_rfl
attribute [simp] b_eq r0_eq r1_eq i0_eq i0t_eq r2_eq i0e_eq r3_eq ret_eq nil_eq inBlock_eq exit_eq pure_eq
end
end slices_Clone_string
namespace slices_Contains_string
noncomputable section
variable (K : List Item) (s : St)
def b : Code := (Try.f84.body).getD .skip
theorem hf : prog.funcs[84]? = some Try.f84 := by kernel_rfl
def r0 := findReg b 0
def r1 := findReg b 1
theorem b_eq : den prog ann 84 (.code b :: K) s = den prog ann 84 (.code r0 :: .code r1 :: .code .ret :: K) s := den_flat hf (l := [r0, r1, .ret]) (by kernel_rfl) K s
theorem r0_eq : den prog ann 84 (.code r0 :: K) s = mreg prog ann 84 none [] none [] [qF 4 fun s => some (.bool false)] K s := (den_reg hf _ K s).trans (by kernel_rfl)
theorem r1_eq : den prog ann 84 (.code r1 :: K) s = mreg prog ann 84 none [] none [] [qC 5 0,qC 6 1,⟨some 7, none, .c 0 (fun s => (.fn 91 [] [])) fun s => [(s.get 5), (s.get 6)]⟩,qF 8 fun s => binA prog .geq 3 (s.get 7) (.int .i64 0),qC 4 8] K s := (den_reg hf _ K s).trans (by kernel_rfl)
theorem ret_eq : den prog ann 84 (.code .ret :: K) s = finM true [fun s => some (s.get 4)] s := (den_ret hf K s).trans (by kernel_rfl)
theorem nil_eq (s : St) : den prog ann 84 [] s = finM true [fun s => some (s.get 4)] s := (den_nil hf s).trans (by kernel_rfl)
theorem inBlock_eq (id : Nat) (K : List Item) (s : St) : den prog ann 84 (.inBlock id :: K) s = den prog ann 84 K s := den_inBlock hf id K s
theorem exit_eq (id : Nat) (K : List Item) (s : St) : den prog ann 84 (.code (.exit id) :: K) s = exitV prog ann 84 (exitTo id K) s := den_exitV hf id K s
theorem call_eq (v0 v1 : AV) (m : Mem) (h : closedL [v0, v1] = true) : denC prog ann 84 [v0, v1] m = (den prog ann 84 [.code b] ⟨[(0, v0), (1, v1)], 9, Mem.empty⟩).bind fun r => some (r.1, m) := (denC_pure hf (b := b) (by kernel_rfl) (by kernel_rfl) (by kernel_rfl) h m).trans (by kernel_rfl)
theorem pure_eq : (ann 84).pure = true := by kernel_rfl
attribute [simp] b_eq r0_eq r1_eq ret_eq nil_eq inBlock_eq exit_eq pure_eq
end
end slices_Contains_string
namespace slices_Index_string
noncomputable section
variable (K : List Item) (s : St)
def b : Code := (Try.f91.body).getD .skip
theorem hf : prog.funcs[91]? = some Try.f91 := by kernel_rfl
def r0 := findReg b 0
def r1 := findReg b 1
def k0 := findBlk b 0
def l0 := loopOf k0
def L0 (x0 x1 x7 x8 : AV) (m : Mem) (K : List Item) : Option Res := den prog ann 91 (.code l0 :: .inLoop l0 :: .inBlock 0 :: K) ⟨[(0, x0), (1, x1), (7, x7), (8, x8)], 19, m⟩
def r2 := findReg b 2
def i0 := findCond b 0
def i0t := thenOf i0
def i0e := elseOf i0
def k1 := findBlk b 1
def r3 := findReg b 3
def r4 := findReg b 4
def i1 := findCond b 1
def i1t := thenOf i1
def i1e := elseOf i1
def r5 := findReg b 5
def r6 := findReg b 6
def r7 := findReg b 7
theorem b_eq : den prog ann 91 (.code b :: K) s = den prog ann 91 (.code r0 :: .code r1 :: .code k0 :: .code r7 :: .code .ret :: K) s := den_flat hf (l := [r0, r1, k0, r7, .ret]) (by kernel_rfl) K s
theorem r0_eq : den prog ann 91 (.code r0 :: K) s = mreg prog ann 91 none [] none [] [qF 4 fun s => some (.int .i64 0)] K s := (den_reg hf _ K s).trans (by kernel_rfl)
theorem r1_eq : den prog ann 91 (.code r1 :: K) s = mreg prog ann 91 none [] none [] [qC 6 0,qA 7 lenSl 6,qF 8 fun s => some (.int .i64 0)] K s := (den_reg hf _ K s).trans (by kernel_rfl)
theorem k0_eq (K : List Item) (t : List (Nat × AV)) (m : Mem) : den prog ann 91 (.code k0 :: K) ⟨t, 19, m⟩ = L0 (get t 0) (get t 1) (get t 7) (get t 8) m K := den_loop_enter hf (b := l0) (id := 2) (l := [0, 1, 7, 8]) (by kernel_rfl) (by kernel_rfl) (by kernel_rfl) K _
theorem l0_eq (K : List Item) (t : List (Nat × AV)) (m : Mem) : den prog ann 91 (.inLoop l0 :: .inBlock 0 :: K) ⟨t, 19, m⟩ = L0 (get t 0) (get t 1) (get t 7) (get t 8) m K := den_loop_again hf (id := 2) (l := [0, 1, 7, 8]) (by kernel_rfl) (by kernel_rfl) (.inBlock 0 :: K) _
theorem L0_eq (x0 x1 x7 x8 : AV) (m : Mem) (K : List Item) : L0 x0 x1 x7 x8 m K = den prog ann 91 (.code r2 :: .code i0 :: .code k1 :: .code r6 :: .inLoop l0 :: .inBlock 0 :: K) ⟨[(0, x0), (1, x1), (7, x7), (8, x8)], 19, m⟩ := den_flat hf (l := [r2, i0, k1, r6]) (by kernel_rfl) _ _
theorem r2_eq : den prog ann 91 (.code r2 :: K) s = mreg prog ann 91 (some [0, 1, 7, 8]) [] none [] [qB 9 (binA prog .lss 3) 8 7] K s := (den_reg hf _ K s).trans (by kernel_rfl)
theorem i0_eq : den prog ann 91 (.code i0 :: K) s = ifV prog ann 91 9 i0t i0e K s (s.get 9) := den_if hf (by kernel_rfl) K s
theorem i0t_eq : den prog ann 91 (.code i0t :: K) s = den prog ann 91 (K) s := den_flat hf (l := []) (by kernel_rfl) K s
theorem i0e_eq : den prog ann 91 (.code i0e :: K) s = den prog ann 91 (.code (.exit 0) :: K) s := den_flat hf (l := [(.exit 0)]) (by kernel_rfl) K s
theorem k1_eq : den prog ann 91 (.code k1 :: K) s = den prog ann 91 (.code r3 :: .code r4 :: .code i1 :: .inBlock 1 :: K) s := den_blk hf (b := blkOf k1) (l := [r3, r4, i1]) (by kernel_rfl) (by kernel_rfl) K s
theorem r3_eq : den prog ann 91 (.code r3 :: K) s = mreg prog ann 91 none [] none [] [qC 10 8,qC 5 10] K s := (den_reg hf _ K s).trans (by kernel_rfl)
theorem r4_eq : den prog ann 91 (.code r4 :: K) s = mreg prog ann 91 none [] none [] [qC 11 1,qC 12 0,qC 13 5,qB 14 (idxSl 1) 12 13,qA 15 (loadF false 1) 14,qB 16 (binA prog .eql 9) 11 15] K s := (den_reg hf _ K s).trans (by kernel_rfl)
theorem i1_eq : den prog ann 91 (.code i1 :: K) s = ifV prog ann 91 16 i1t i1e K s (s.get 16) := den_if hf (by kernel_rfl) K s
theorem i1t_eq : den prog ann 91 (.code i1t :: K) s = den prog ann 91 (.code r5 :: .code .ret :: K) s := den_flat hf (l := [r5, .ret]) (by kernel_rfl) K s
theorem r5_eq : den prog ann 91 (.code r5 :: K) s = mreg prog ann 91 none [] none [] [qC 17 5,qC 4 17] K s := (den_reg hf _ K s).trans (by kernel_rfl)
theorem i1e_eq : den prog ann 91 (.code i1e :: K) s = den prog ann 91 (K) s := den_flat hf (l := []) (by kernel_rfl) K s
theorem r6_eq : den prog ann 91 (.code r6 :: K) s = mreg prog ann 91 (some [0, 1, 7, 8]) [] none [] [qF 18 fun s => binA prog .add 3 (s.get 8) (.int .i64 1),qC 8 18] K s := (den_reg hf _ K s).trans (by kernel_rfl)
theorem r7_eq : den prog ann 91 (.code r7 :: K) s = mreg prog ann 91 (some []) [] none [] [qF 4 fun s => some (.int .i64 (-1))] K s := (den_reg hf _ K s).trans (by kernel_rfl)
theorem ret_eq : den prog ann 91 (.code .ret :: K) s = finM true [fun s => some (s.get 4)] s := (den_ret hf K s).trans (by kernel_rfl)
theorem nil_eq (s : St) : den prog ann 91 [] s = finM true [fun s => some (s.get 4)] s := (den_nil hf s).trans (by kernel_rfl)
theorem inBlock_eq (id : Nat) (K : List Item) (s : St) : den prog ann 91 (.inBlock id :: K) s = den prog ann 91 K s := den_inBlock hf id K s
theorem exit_eq (id : Nat) (K : List Item) (s : St) : den prog ann 91 (.code (.exit id) :: K) s = exitV prog ann 91 (exitTo id K) s := den_exitV hf id K s
theorem call_eq (v0 v1 : AV) (m : Mem) (h : closedL [v0, v1] = true) : denC prog ann 91 [v0, v1] m = (den prog ann 91 [.code b] ⟨[(0, v0), (1, v1)], 19, Mem.empty⟩).bind fun r => some (r.1, m) := (denC_pure hf (b := b) (by kernel_rfl) (by kernel_rfl) (by kernel_rfl) h m).trans (by kernel_rfl)
theorem pure_eq : (ann 91).pure = true := by kernel_rfl
attribute [simp] b_eq r0_eq r1_eq k0_eq l0_eq r2_eq i0_eq i0t_eq i0e_eq k1_eq r3_eq r4_eq i1_eq i1t_eq r5_eq i1e_eq r6_eq r7_eq ret_eq nil_eq inBlock_eq exit_eq pure_eq
end
end slices_Index_string
end Go.Proofs.Ythnpflkpjimkfaa

/-
  BODIES OF FUNCTIONS OF THE PROGRAM AS SMALL OPERATIONS (written by gen.py; checked by the kernel against the program). Conditions: none.
-/
namespace Go.Proofs.Ythnpflkpjimkfaa
open Go.AM
open Go.Proofs.Try (prog)
set_option maxRecDepth 100000
set_option linter.all false
namespace l07_BrandSimon
noncomputable section
variable (K : List Item) (s : St)
def b : Code := (Try.f16.body).getD .skip
theorem hf : prog.funcs[16]? = some Try.f16 := by kernel_rfl
def r0 := findReg b 0
def r1 := findReg b 1
def r2 := findReg b 2
def r3 := findReg b 3
def r4 := findReg b 4
def r5 := findReg b 5
def i0 := findCond b 0
def i0t := thenOf i0
def i0e := elseOf i0
def r6 := findReg b 6
def r7 := findReg b 7
def r8 := findReg b 8
def i1 := findCond b 1
def i1t := thenOf i1
def i1e := elseOf i1
def r9 := findReg b 9
def r10 := findReg b 10
def i2 := findCond b 2
def i2t := thenOf i2
def i2e := elseOf i2
def r11 := findReg b 11
def r12 := findReg b 12
theorem b_eq : den prog ann 16 (.code b :: K) s = den prog ann 16 (.code r0 :: .code r1 :: .code r2 :: .code r3 :: .code r4 :: .code r5 :: .code i0 :: .code r10 :: .code i2 :: .code r12 :: .code .ret :: K) s := den_flat hf (l := [r0, r1, r2, r3, r4, r5, i0, r10, i2, r12, .ret]) (by kernel_rfl) K s
theorem r0_eq : den prog ann 16 (.code r0 :: K) s = mreg prog ann 16 none [] none [] [qA 2 frozenPtr 0,qF 4 fun s => some (.bool false)] K s := (den_reg hf _ K s).trans (by kernel_rfl)
theorem r1_eq : den prog ann 16 (.code r1 :: K) s = mreg prog ann 16 none [] none [5] [qA 19 (loadF true 4) 2,⟨some 20, none, .c 0 (fun s => (.fn 22 [] [])) fun s => [(s.get 19)]⟩,⟨some 5, none, .w false none fun s => newPtr s.m [.nils, .nils]⟩,⟨none, none, .w false none fun s => stA true 2 s.m (s.get 5) (s.get 20)⟩] K s := (den_reg hf _ K s).trans (by kernel_rfl)
theorem r2_eq : den prog ann 16 (.code r2 :: K) s = mreg prog ann 16 none [] none [] [qA 22 (loadF true 2) 5,qC 23 1,qA 24 (convInt .i64) 23,qF 25 fun s => binA prog .rem 3 (s.get 24) (.int .i64 4),⟨some 26, none, .c 0 (fun s => (.fn 18 [] [])) fun s => [(s.get 22), (s.get 25)]⟩,qC 21 26,qF 27 fun s => extA (s.get 21) 0,qF 28 fun s => extA (s.get 21) 1,qF 29 fun s => extA (s.get 21) 2,qC 6 27,qC 7 28,qC 8 29] K s := (den_reg hf _ K s).trans (by kernel_rfl)
theorem r3_eq : den prog ann 16 (.code r3 :: K) s = mreg prog ann 16 none [] none [] [qA 31 (loadF true 2) 5,⟨some 32, none, .c 0 (fun s => (.fn 52 [] [])) fun s => [(s.get 31)]⟩,qC 30 32,qF 33 fun s => extA (s.get 30) 0,qF 34 fun s => extA (s.get 30) 1,qF 35 fun s => extA (s.get 30) 2,qC 9 33,qC 10 34,qC 11 35] K s := (den_reg hf _ K s).trans (by kernel_rfl)
theorem r4_eq : den prog ann 16 (.code r4 :: K) s = mreg prog ann 16 none [] none [] [qA 37 (loadF true 2) 5,⟨some 38, none, .c 0 (fun s => (.fn 44 [] [])) fun s => [(s.get 37)]⟩,qC 36 38,qF 39 fun s => extA (s.get 36) 0,qF 40 fun s => extA (s.get 36) 1,qF 41 fun s => extA (s.get 36) 2,qC 12 39,qC 13 40,qC 14 41] K s := (den_reg hf _ K s).trans (by kernel_rfl)
theorem r5_eq : den prog ann 16 (.code r5 :: K) s = mreg prog ann 16 none [] none [] [qC 42 8,qF 43 fun s => binA prog .eql 27 (s.get 42) (.int .i64 0)] K s := (den_reg hf _ K s).trans (by kernel_rfl)
theorem i0_eq : den prog ann 16 (.code i0 :: K) s = ifV prog ann 16 43 i0t i0e K s (s.get 43) := den_if hf (by kernel_rfl) K s
theorem i0t_eq : den prog ann 16 (.code i0t :: K) s = den prog ann 16 (.code r6 :: .code r7 :: .code r8 :: .code i1 :: K) s := den_flat hf (l := [r6, r7, r8, i1]) (by kernel_rfl) K s
theorem r6_eq : den prog ann 16 (.code r6 :: K) s = mreg prog ann 16 none [] none [] [qA 45 (loadF true 2) 5,qC 46 6,⟨some 47, none, .c 0 (fun s => (.fn 31 [] [])) fun s => [(s.get 45), (s.get 46)]⟩,qC 44 47,qF 48 fun s => extA (s.get 44) 0,qF 49 fun s => extA (s.get 44) 1,qC 15 48,qC 16 49] K s := (den_reg hf _ K s).trans (by kernel_rfl)
theorem r7_eq : den prog ann 16 (.code r7 :: K) s = mreg prog ann 16 none [] none [] [qA 51 (loadF true 2) 5,qC 52 7,⟨some 53, none, .c 0 (fun s => (.fn 31 [] [])) fun s => [(s.get 51), (s.get 52)]⟩,qC 50 53,qF 54 fun s => extA (s.get 50) 0,qF 55 fun s => extA (s.get 50) 1,qC 17 54,qC 18 55] K s := (den_reg hf _ K s).trans (by kernel_rfl)
theorem r8_eq : den prog ann 16 (.code r8 :: K) s = mreg prog ann 16 none [] none [] [qC 56 16,qF 57 fun s => binA prog .neq 27 (s.get 56) (.int .i64 0),qC 58 57,⟨some 59, some (58, true), .v fun s => some (s.get 16)⟩,⟨some 60, some (58, true), .v fun s => binA prog .neq 27 (s.get 59) (.int .i64 3)⟩,qF 61 fun s => pickA (s.get 58) (s.get 60) (.bool false),qC 62 61,⟨some 63, some (62, false), .v fun s => some (s.get 18)⟩,⟨some 64, some (62, false), .v fun s => binA prog .neq 27 (s.get 63) (.int .i64 0)⟩,⟨some 65, some (62, false), .v fun s => some (s.get 64)⟩,⟨some 66, some (65, true), .v fun s => some (s.get 18)⟩,⟨some 67, some (65, true), .v fun s => binA prog .neq 27 (s.get 66) (.int .i64 3)⟩,⟨some 68, some (62, false), .v fun s => pickA (s.get 65) (s.get 67) (.bool false)⟩,qF 69 fun s => pickA (s.get 62) (.bool true) (s.get 68),qC 70 69,⟨some 71, some (70, false), .v fun s => some (s.get 16)⟩,⟨some 72, some (70, false), .v fun s => binA prog .eql 27 (s.get 71) (.int .i64 0)⟩,⟨some 73, some (70, false), .v fun s => some (s.get 72)⟩,⟨some 74, some (73, true), .v fun s => some (s.get 15)⟩,⟨some 75, some (73, true), .v fun s => unA .not (s.get 74)⟩,⟨some 76, some (70, false), .v fun s => pickA (s.get 73) (s.get 75) (.bool false)⟩,qF 77 fun s => pickA (s.get 70) (.bool true) (s.get 76),qC 78 77,⟨some 79, some (78, false), .v fun s => some (s.get 18)⟩,⟨some 80, some (78, false), .v fun s => binA prog .eql 27 (s.get 79) (.int .i64 0)⟩,⟨some 81, some (78, false), .v fun s => some (s.get 80)⟩,⟨some 82, some (81, true), .v fun s => some (s.get 17)⟩,⟨some 83, some (78, false), .v fun s => pickA (s.get 81) (s.get 82) (.bool false)⟩,qF 84 fun s => pickA (s.get 78) (.bool true) (s.get 83),qC 85 84,⟨some 86, some (85, false), .v fun s => some (s.get 6)⟩,⟨some 87, some (85, false), .v fun s => some (s.get 1)⟩,⟨some 88, some (85, false), .v fun s => convInt .i64 (s.get 87)⟩,⟨some 89, some (85, false), .v fun s => binA prog .rem 3 (s.get 88) (.int .i64 4)⟩,⟨some 90, some (85, false), .c 0 (fun s => (.fn 54 [] [])) fun s => [(s.get 86), (s.get 89)]⟩,⟨some 91, some (85, false), .v fun s => some (s.get 7)⟩,⟨some 92, some (85, false), .v fun s => some (s.get 1)⟩,⟨some 93, some (85, false), .v fun s => convInt .i64 (s.get 92)⟩,⟨some 94, some (85, false), .v fun s => binA prog .rem 3 (s.get 93) (.int .i64 4)⟩,⟨some 95, some (85, false), .c 0 (fun s => (.fn 54 [] [])) fun s => [(s.get 91), (s.get 94)]⟩,⟨some 96, some (85, false), .v fun s => binA prog .neq 9 (s.get 90) (s.get 95)⟩,qF 97 fun s => pickA (s.get 85) (.bool true) (s.get 96)] K s := (den_reg hf _ K s).trans (by kernel_rfl)
theorem i1_eq : den prog ann 16 (.code i1 :: K) s = ifV prog ann 16 97 i1t i1e K s (s.get 97) := den_if hf (by kernel_rfl) K s
theorem i1t_eq : den prog ann 16 (.code i1t :: K) s = den prog ann 16 (.code r9 :: .code .ret :: K) s := den_flat hf (l := [r9, .ret]) (by kernel_rfl) K s
theorem r9_eq : den prog ann 16 (.code r9 :: K) s = mreg prog ann 16 none [] none [] [qF 4 fun s => some (.bool false)] K s := (den_reg hf _ K s).trans (by kernel_rfl)
theorem i1e_eq : den prog ann 16 (.code i1e :: K) s = den prog ann 16 (K) s := den_flat hf (l := []) (by kernel_rfl) K s
theorem i0e_eq : den prog ann 16 (.code i0e :: K) s = den prog ann 16 (K) s := den_flat hf (l := []) (by kernel_rfl) K s
theorem r10_eq : den prog ann 16 (.code r10 :: K) s = mreg prog ann 16 (some [8, 11, 14]) [] none [] [qC 98 8,qF 99 fun s => binA prog .neq 27 (s.get 98) (.int .i64 0),qC 100 99,⟨some 101, some (100, true), .v fun s => some (s.get 8)⟩,⟨some 102, some (100, true), .v fun s => binA prog .neq 27 (s.get 101) (.int .i64 5)⟩,qF 103 fun s => pickA (s.get 100) (s.get 102) (.bool false),qC 104 103,⟨some 105, some (104, true), .v fun s => some (s.get 8)⟩,⟨some 106, some (104, true), .v fun s => binA prog .neq 27 (s.get 105) (.int .i64 7)⟩,qF 107 fun s => pickA (s.get 104) (s.get 106) (.bool false),qC 108 107,⟨some 109, some (108, false), .v fun s => some (s.get 11)⟩,⟨some 110, some (108, false), .v fun s => binA prog .eql 27 (s.get 109) (.int .i64 7)⟩,⟨some 111, some (108, false), .v fun s => some (s.get 14)⟩,⟨some 112, some (108, false), .v fun s => binA prog .eql 27 (s.get 111) (.int .i64 7)⟩,⟨some 113, some (108, false), .v fun s => binA prog .neq 4 (s.get 110) (s.get 112)⟩,qF 114 fun s => pickA (s.get 108) (.bool true) (s.get 113)] K s := (den_reg hf _ K s).trans (by kernel_rfl)
theorem i2_eq : den prog ann 16 (.code i2 :: K) s = ifV prog ann 16 114 i2t i2e K s (s.get 114) := den_if hf (by kernel_rfl) K s
theorem i2t_eq : den prog ann 16 (.code i2t :: K) s = den prog ann 16 (.code r11 :: .code .ret :: K) s := den_flat hf (l := [r11, .ret]) (by kernel_rfl) K s
theorem r11_eq : den prog ann 16 (.code r11 :: K) s = mreg prog ann 16 none [] none [] [qF 4 fun s => some (.bool false)] K s := (den_reg hf _ K s).trans (by kernel_rfl)
theorem i2e_eq : den prog ann 16 (.code i2e :: K) s = den prog ann 16 (K) s := den_flat hf (l := []) (by kernel_rfl) K s
theorem r12_eq : den prog ann 16 (.code r12 :: K) s = mreg prog ann 16 none [] none [] [qC 115 8,qF 116 fun s => binA prog .neq 27 (s.get 115) (.int .i64 5),qC 117 116,⟨some 118, some (117, false), .v fun s => some (s.get 11)⟩,⟨some 119, some (117, false), .v fun s => binA prog .neq 27 (s.get 118) (.int .i64 0)⟩,qF 120 fun s => pickA (s.get 117) (.bool true) (s.get 119),qC 121 120,⟨some 122, some (121, true), .v fun s => some (s.get 11)⟩,⟨some 123, some (121, true), .v fun s => binA prog .neq 27 (s.get 122) (.int .i64 5)⟩,⟨some 124, some (121, true), .v fun s => some (s.get 123)⟩,⟨some 125, some (124, false), .v fun s => some (s.get 14)⟩,⟨some 126, some (124, false), .v fun s => binA prog .eql 27 (s.get 125) (.int .i64 5)⟩,⟨some 127, some (121, true), .v fun s => pickA (s.get 124) (.bool true) (s.get 126)⟩,qF 128 fun s => pickA (s.get 121) (s.get 127) (.bool false),qC 129 128,⟨some 130, some (129, true), .c 0 (fun s => (.fn 21 [] [])) fun s => []⟩,qF 131 fun s => pickA (s.get 129) (s.get 130) (.bool false),qC 4 131] K s := (den_reg hf _ K s).trans (by kernel_rfl)
theorem ret_eq : den prog ann 16 (.code .ret :: K) s = finM true [fun s => some (s.get 4)] s := (den_ret hf K s).trans (by kernel_rfl)
theorem nil_eq (s : St) : den prog ann 16 [] s = finM true [fun s => some (s.get 4)] s := (den_nil hf s).trans (by kernel_rfl)
theorem inBlock_eq (id : Nat) (K : List Item) (s : St) : den prog ann 16 (.inBlock id :: K) s = den prog ann 16 K s := den_inBlock hf id K s
theorem exit_eq (id : Nat) (K : List Item) (s : St) : den prog ann 16 (.code (.exit id) :: K) s = exitV prog ann 16 (exitTo id K) s := den_exitV hf id K s
theorem call_eq (v0 v1 : AV) (m : Mem) (h : closedL [v0, v1] = true) : denC prog ann 16 [v0, v1] m = (den prog ann 16 [.code b] ⟨[(0, v0), (1, v1)], 132, Mem.empty⟩).bind fun r => some (r.1, m) := (denC_pure hf (b := b) (by kernel_rfl) (by kernel_rfl) (by kernel_rfl) h m).trans (by kernel_rfl)
theorem pure_eq : (ann 16).pure = true := by kernel_rfl
attribute [simp] b_eq r0_eq r1_eq r2_eq r3_eq r4_eq r5_eq i0_eq i0t_eq r6_eq r7_eq r8_eq i1_eq i1t_eq r9_eq i1e_eq i0e_eq r10_eq i2_eq i2t_eq r11_eq i2e_eq r12_eq ret_eq nil_eq inBlock_eq exit_eq pure_eq
end
end l07_BrandSimon
namespace r07_Parts
noncomputable section
variable (K : List Item) (s : St)
def b : Code := (Try.f54.body).getD .skip
theorem hf : prog.funcs[54]? = some Try.f54 := by kernel_rfl
def r0 := findReg b 0
def r1 := findReg b 1
def r2 := findReg b 2
def k0 := findBlk b 0
def l0 := loopOf k0
def L0 (x0 x1 x5 x6 : AV) (m : Mem) (K : List Item) : Option Res := den prog ann 54 (.code l0 :: .inLoop l0 :: .inBlock 0 :: K) ⟨[(0, x0), (1, x1), (5, x5), (6, x6)], 24, m⟩
def r3 := findReg b 3
def i0 := findCond b 0
def i0t := thenOf i0
def i0e := elseOf i0
def k1 := findBlk b 1
def r5 := findReg b 5
def r4 := findReg b 4
def r6 := findReg b 6
theorem b_eq : den prog ann 54 (.code b :: K) s = den prog ann 54 (.code r0 :: .code r1 :: .code r2 :: .code k0 :: .code r6 :: .code .ret :: K) s := den_flat hf (l := [r0, r1, r2, k0, r6, .ret]) (by kernel_rfl) K s
theorem r0_eq : den prog ann 54 (.code r0 :: K) s = mreg prog ann 54 none [] none [] [qF 4 fun s => some (.str [])] K s := (den_reg hf _ K s).trans (by kernel_rfl)
theorem r1_eq : den prog ann 54 (.code r1 :: K) s = mreg prog ann 54 none [] none [] [qF 7 fun s => bslF 1 (bslA 1 1 [.str []] [(0, (.str []))]),qC 5 7] K s := (den_reg hf _ K s).trans (by kernel_rfl)
theorem r2_eq : den prog ann 54 (.code r2 :: K) s = mreg prog ann 54 none [] none [] [qF 6 fun s => some (.int .i64 0)] K s := (den_reg hf _ K s).trans (by kernel_rfl)
theorem k0_eq (K : List Item) (t : List (Nat × AV)) (m : Mem) : den prog ann 54 (.code k0 :: K) ⟨t, 24, m⟩ = L0 (get t 0) (get t 1) (get t 5) (get t 6) m K := den_loop_enter hf (b := l0) (id := 3) (l := [0, 1, 5, 6]) (by kernel_rfl) (by kernel_rfl) (by kernel_rfl) K _
theorem l0_eq (K : List Item) (t : List (Nat × AV)) (m : Mem) : den prog ann 54 (.inLoop l0 :: .inBlock 0 :: K) ⟨t, 24, m⟩ = L0 (get t 0) (get t 1) (get t 5) (get t 6) m K := den_loop_again hf (id := 3) (l := [0, 1, 5, 6]) (by kernel_rfl) (by kernel_rfl) (.inBlock 0 :: K) _
theorem L0_eq (x0 x1 x5 x6 : AV) (m : Mem) (K : List Item) : L0 x0 x1 x5 x6 m K = den prog ann 54 (.code r3 :: .code i0 :: .code k1 :: .code r4 :: .inLoop l0 :: .inBlock 0 :: K) ⟨[(0, x0), (1, x1), (5, x5), (6, x6)], 24, m⟩ := den_flat hf (l := [r3, i0, k1, r4]) (by kernel_rfl) _ _
theorem r3_eq : den prog ann 54 (.code r3 :: K) s = mreg prog ann 54 (some [0, 1, 5, 6]) [] none [] [qC 8 6,qC 9 0,qA 10 lenStr 9,qB 11 (binA prog .lss 3) 8 10] K s := (den_reg hf _ K s).trans (by kernel_rfl)
theorem i0_eq : den prog ann 54 (.code i0 :: K) s = ifV prog ann 54 11 i0t i0e K s (s.get 11) := den_if hf (by kernel_rfl) K s
theorem i0t_eq : den prog ann 54 (.code i0t :: K) s = den prog ann 54 (K) s := den_flat hf (l := []) (by kernel_rfl) K s
theorem i0e_eq : den prog ann 54 (.code i0e :: K) s = den prog ann 54 (.code (.exit 0) :: K) s := den_flat hf (l := [(.exit 0)]) (by kernel_rfl) K s
theorem k1_eq : den prog ann 54 (.code k1 :: K) s = den prog ann 54 (.code r5 :: .inBlock 1 :: K) s := den_blk hf (b := blkOf k1) (l := [r5]) (by kernel_rfl) (by kernel_rfl) K s
theorem r5_eq : den prog ann 54 (.code r5 :: K) s = mreg prog ann 54 none [] none [] [qC 14 5,qC 15 0,qC 16 6,qC 17 6,qF 18 fun s => binA prog .add 3 (s.get 17) (.int .i64 1),qF 19 fun s => sliceStr (s.get 15) (some (s.get 16)) (some (s.get 18)),qC 20 1,⟨some 21, none, .c 2 (fun s => (.fn 63 [] [])) fun s => [(s.get 14), (s.get 19), (s.get 20)]⟩,qC 5 21] K s := (den_reg hf _ K s).trans (by kernel_rfl)
theorem r4_eq : den prog ann 54 (.code r4 :: K) s = mreg prog ann 54 (some [0, 1, 5, 6]) [] none [] [qC 12 6,qF 13 fun s => binA prog .add 3 (s.get 12) (.int .i64 1),qC 6 13] K s := (den_reg hf _ K s).trans (by kernel_rfl)
theorem r6_eq : den prog ann 54 (.code r6 :: K) s = mreg prog ann 54 (some [5]) [] none [] [qC 22 5,⟨some 23, none, .c 0 (fun s => (.fn 65 [] [])) fun s => [(s.get 22)]⟩,qC 4 23] K s := (den_reg hf _ K s).trans (by kernel_rfl)
theorem ret_eq : den prog ann 54 (.code .ret :: K) s = finM true [fun s => some (s.get 4)] s := (den_ret hf K s).trans (by kernel_rfl)
theorem nil_eq (s : St) : den prog ann 54 [] s = finM true [fun s => some (s.get 4)] s := (den_nil hf s).trans (by kernel_rfl)
theorem inBlock_eq (id : Nat) (K : List Item) (s : St) : den prog ann 54 (.inBlock id :: K) s = den prog ann 54 K s := den_inBlock hf id K s
theorem exit_eq (id : Nat) (K : List Item) (s : St) : den prog ann 54 (.code (.exit id) :: K) s = exitV prog ann 54 (exitTo id K) s := den_exitV hf id K s
theorem call_eq (v0 v1 : AV) (m : Mem) (h : closedL [v0, v1] = true) : denC prog ann 54 [v0, v1] m = (den prog ann 54 [.code b] ⟨[(0, v0), (1, v1)], 24, Mem.empty⟩).bind fun r => some (r.1, m) := (denC_pure hf (b := b) (by kernel_rfl) (by kernel_rfl) (by kernel_rfl) h m).trans (by kernel_rfl)
theorem pure_eq : (ann 54).pure = true := by kernel_rfl
attribute [simp] b_eq r0_eq r1_eq r2_eq k0_eq l0_eq r3_eq i0_eq i0t_eq i0e_eq k1_eq r5_eq r4_eq r6_eq ret_eq nil_eq inBlock_eq exit_eq pure_eq
end
end r07_Parts
namespace r07_more
noncomputable section
variable (K : List Item) (s : St)
def b : Code := (Try.f63.body).getD .skip
theorem hf : prog.funcs[63]? = some Try.f63 := by kernel_rfl
def r0 := findReg b 0
def r1 := findReg b 1
def r2 := findReg b 2
def k0 := findBlk b 0
def l0 := loopOf k0
def L0 (x0 x1 x2 x7 x8 : AV) (m : Mem) (K : List Item) : Option Res := den prog ann 63 (.code l0 :: .inLoop l0 :: .inBlock 0 :: K) ⟨[(0, x0), (1, x1), (2, x2), (7, x7), (8, x8)], 72, m⟩
def r3 := findReg b 3
def i0 := findCond b 0
def i0t := thenOf i0
def i0e := elseOf i0
def k1 := findBlk b 1
def r5 := findReg b 5
def i1 := findCond b 1
def i1t := thenOf i1
def i1e := elseOf i1
def r6 := findReg b 6
def k2 := findBlk b 2
def l2 := loopOf k2
def L2 (x0 x1 x2 x7 x8 x9 x10 : AV) (m : Mem) (K : List Item) : Option Res := den prog ann 63 (.code l2 :: .inLoop l2 :: .inBlock 2 :: K) ⟨[(0, x0), (1, x1), (2, x2), (7, x7), (8, x8), (9, x9), (10, x10)], 72, m⟩
def r7 := findReg b 7
def i2 := findCond b 2
def i2t := thenOf i2
def i2e := elseOf i2
def k3 := findBlk b 3
def r8 := findReg b 8
def r9 := findReg b 9
def i3 := findCond b 3
def i3t := thenOf i3
def i3e := elseOf i3
def r10 := findReg b 10
def r4 := findReg b 4
def r11 := findReg b 11
theorem b_eq : den prog ann 63 (.code b :: K) s = den prog ann 63 (.code r0 :: .code r1 :: .code r2 :: .code k0 :: .code r11 :: .code .ret :: K) s := den_flat hf (l := [r0, r1, r2, k0, r11, .ret]) (by kernel_rfl) K s
theorem r0_eq : den prog ann 63 (.code r0 :: K) s = mreg prog ann 63 none [] none [] [qF 6 fun s => some (.nils)] K s := (den_reg hf _ K s).trans (by kernel_rfl)
theorem r1_eq : den prog ann 63 (.code r1 :: K) s = mreg prog ann 63 none [] none [] [qF 11 fun s => bslF 0 (bslA 1 0 [.str []] []),qC 12 0,qB 13 (appV 1 16) 11 12,qC 7 13] K s := (den_reg hf _ K s).trans (by kernel_rfl)
theorem r2_eq : den prog ann 63 (.code r2 :: K) s = mreg prog ann 63 none [] none [] [qF 8 fun s => some (.int .i64 0)] K s := (den_reg hf _ K s).trans (by kernel_rfl)
theorem k0_eq (K : List Item) (t : List (Nat × AV)) (m : Mem) : den prog ann 63 (.code k0 :: K) ⟨t, 72, m⟩ = L0 (get t 0) (get t 1) (get t 2) (get t 7) (get t 8) m K := den_loop_enter hf (b := l0) (id := 3) (l := [0, 1, 2, 7, 8]) (by kernel_rfl) (by kernel_rfl) (by kernel_rfl) K _
theorem l0_eq (K : List Item) (t : List (Nat × AV)) (m : Mem) : den prog ann 63 (.inLoop l0 :: .inBlock 0 :: K) ⟨t, 72, m⟩ = L0 (get t 0) (get t 1) (get t 2) (get t 7) (get t 8) m K := den_loop_again hf (id := 3) (l := [0, 1, 2, 7, 8]) (by kernel_rfl) (by kernel_rfl) (.inBlock 0 :: K) _
theorem L0_eq (x0 x1 x2 x7 x8 : AV) (m : Mem) (K : List Item) : L0 x0 x1 x2 x7 x8 m K = den prog ann 63 (.code r3 :: .code i0 :: .code k1 :: .code r4 :: .inLoop l0 :: .inBlock 0 :: K) ⟨[(0, x0), (1, x1), (2, x2), (7, x7), (8, x8)], 72, m⟩ := den_flat hf (l := [r3, i0, k1, r4]) (by kernel_rfl) _ _
theorem r3_eq : den prog ann 63 (.code r3 :: K) s = mreg prog ann 63 (some [0, 1, 2, 7, 8]) [] none [] [qC 14 8,qC 15 0,qA 16 lenSl 15,qB 17 (binA prog .lss 3) 14 16] K s := (den_reg hf _ K s).trans (by kernel_rfl)
theorem i0_eq : den prog ann 63 (.code i0 :: K) s = ifV prog ann 63 17 i0t i0e K s (s.get 17) := den_if hf (by kernel_rfl) K s
theorem i0t_eq : den prog ann 63 (.code i0t :: K) s = den prog ann 63 (K) s := den_flat hf (l := []) (by kernel_rfl) K s
theorem i0e_eq : den prog ann 63 (.code i0e :: K) s = den prog ann 63 (.code (.exit 0) :: K) s := den_flat hf (l := [(.exit 0)]) (by kernel_rfl) K s
theorem k1_eq : den prog ann 63 (.code k1 :: K) s = den prog ann 63 (.code r5 :: .code i1 :: .code r6 :: .code k2 :: .code r9 :: .code i3 :: .inBlock 1 :: K) s := den_blk hf (b := blkOf k1) (l := [r5, i1, r6, k2, r9, i3]) (by kernel_rfl) (by kernel_rfl) K s
theorem r5_eq : den prog ann 63 (.code r5 :: K) s = mreg prog ann 63 none [] none [] [qC 20 0,qC 21 8,qB 22 (idxSl 1) 20 21,qA 23 (loadF false 1) 22,qA 24 lenStr 23,qC 25 2,qB 26 (binA prog .eql 3) 24 25] K s := (den_reg hf _ K s).trans (by kernel_rfl)
theorem i1_eq : den prog ann 63 (.code i1 :: K) s = ifV prog ann 63 26 i1t i1e K s (s.get 26) := den_if hf (by kernel_rfl) K s
theorem i1t_eq : den prog ann 63 (.code i1t :: K) s = den prog ann 63 (.code (.exit 1) :: K) s := den_flat hf (l := [(.exit 1)]) (by kernel_rfl) K s
theorem i1e_eq : den prog ann 63 (.code i1e :: K) s = den prog ann 63 (K) s := den_flat hf (l := []) (by kernel_rfl) K s
theorem r6_eq : den prog ann 63 (.code r6 :: K) s = mreg prog ann 63 none [] none [] [qC 27 0,qC 28 8,qB 29 (idxSl 1) 27 28,qA 30 (loadF false 1) 29,qC 31 1,qB 32 (binA prog .add 9) 30 31,qC 9 32,qF 10 fun s => some (.int .i64 0)] K s := (den_reg hf _ K s).trans (by kernel_rfl)
theorem k2_eq (K : List Item) (t : List (Nat × AV)) (m : Mem) : den prog ann 63 (.code k2 :: K) ⟨t, 72, m⟩ = L2 (get t 0) (get t 1) (get t 2) (get t 7) (get t 8) (get t 9) (get t 10) m K := den_loop_enter hf (b := l2) (id := 7) (l := [0, 1, 2, 7, 8, 9, 10]) (by kernel_rfl) (by kernel_rfl) (by kernel_rfl) K _
theorem l2_eq (K : List Item) (t : List (Nat × AV)) (m : Mem) : den prog ann 63 (.inLoop l2 :: .inBlock 2 :: K) ⟨t, 72, m⟩ = L2 (get t 0) (get t 1) (get t 2) (get t 7) (get t 8) (get t 9) (get t 10) m K := den_loop_again hf (id := 7) (l := [0, 1, 2, 7, 8, 9, 10]) (by kernel_rfl) (by kernel_rfl) (.inBlock 2 :: K) _
theorem L2_eq (x0 x1 x2 x7 x8 x9 x10 : AV) (m : Mem) (K : List Item) : L2 x0 x1 x2 x7 x8 x9 x10 m K = den prog ann 63 (.code r7 :: .code i2 :: .code k3 :: .inLoop l2 :: .inBlock 2 :: K) ⟨[(0, x0), (1, x1), (2, x2), (7, x7), (8, x8), (9, x9), (10, x10)], 72, m⟩ := den_flat hf (l := [r7, i2, k3]) (by kernel_rfl) _ _
theorem r7_eq : den prog ann 63 (.code r7 :: K) s = mreg prog ann 63 (some [0, 1, 2, 7, 8, 9, 10]) [] none [] [qC 33 10,qC 34 7,qA 35 lenSl 34,qB 36 (binA prog .lss 3) 33 35,qC 37 36,⟨some 38, some (37, true), .v fun s => some (s.get 7)⟩,⟨some 39, some (37, true), .v fun s => some (s.get 10)⟩,⟨some 40, some (37, true), .v fun s => idxSl 1 (s.get 38) (s.get 39)⟩,⟨some 41, some (37, true), .v fun s => loadA false 1 s.m (s.get 40)⟩,⟨some 42, some (37, true), .v fun s => some (s.get 9)⟩,⟨some 43, some (37, true), .c 0 (fun s => (.fn 39 [] [])) fun s => [(s.get 41), (s.get 42)]⟩,qF 44 fun s => pickA (s.get 37) (s.get 43) (.bool false)] K s := (den_reg hf _ K s).trans (by kernel_rfl)
theorem i2_eq : den prog ann 63 (.code i2 :: K) s = ifV prog ann 63 44 i2t i2e K s (s.get 44) := den_if hf (by kernel_rfl) K s
theorem i2t_eq : den prog ann 63 (.code i2t :: K) s = den prog ann 63 (K) s := den_flat hf (l := []) (by kernel_rfl) K s
theorem i2e_eq : den prog ann 63 (.code i2e :: K) s = den prog ann 63 (.code (.exit 2) :: K) s := den_flat hf (l := [(.exit 2)]) (by kernel_rfl) K s
theorem k3_eq : den prog ann 63 (.code k3 :: K) s = den prog ann 63 (.code r8 :: .inBlock 3 :: K) s := den_blk hf (b := blkOf k3) (l := [r8]) (by kernel_rfl) (by kernel_rfl) K s
theorem r8_eq : den prog ann 63 (.code r8 :: K) s = mreg prog ann 63 none [] none [] [qC 45 10,qF 46 fun s => binA prog .add 3 (s.get 45) (.int .i64 1),qC 10 46] K s := (den_reg hf _ K s).trans (by kernel_rfl)
theorem r9_eq : den prog ann 63 (.code r9 :: K) s = mreg prog ann 63 (some [0, 1, 2, 7, 8, 9, 10]) [] none [] [qC 47 10,qC 48 7,qA 49 lenSl 48,qB 50 (binA prog .eql 3) 47 49,qC 51 50,⟨some 52, some (51, false), .v fun s => some (s.get 7)⟩,⟨some 53, some (51, false), .v fun s => some (s.get 10)⟩,⟨some 54, some (51, false), .v fun s => idxSl 1 (s.get 52) (s.get 53)⟩,⟨some 55, some (51, false), .v fun s => loadA false 1 s.m (s.get 54)⟩,⟨some 56, some (51, false), .v fun s => some (s.get 9)⟩,⟨some 57, some (51, false), .v fun s => binA prog .neq 9 (s.get 55) (s.get 56)⟩,qF 58 fun s => pickA (s.get 51) (.bool true) (s.get 57)] K s := (den_reg hf _ K s).trans (by kernel_rfl)
theorem i3_eq : den prog ann 63 (.code i3 :: K) s = ifV prog ann 63 58 i3t i3e K s (s.get 58) := den_if hf (by kernel_rfl) K s
theorem i3t_eq : den prog ann 63 (.code i3t :: K) s = den prog ann 63 (.code r10 :: K) s := den_flat hf (l := [r10]) (by kernel_rfl) K s
theorem r10_draw : drawOk (fun g => (ann g).pure) (modeOf (ann 63) (idOf r10)) (frzOf (ann 63) (idOf r10)) (opsOf r10) = true := drawOk_of (an := [0, 0, 0, 6, 15, 0, 32, 127, 0, 0, 768, 2047, 4095]) (by kernel_rfl) (by kernel_rfl)
theorem r10_eq : den prog ann 63 (.code r10 :: K) s = mreg prog ann 63 none [] (some 13) [7] [⟨some 59, none, .w false (some 0) fun s => bslM s.m 0 (bslA 1 0 [.str []] [])⟩,qC 60 7,qC 61 10,qF 62 fun s => sliceSl 1 (s.get 60) none (some (s.get 61)),⟨some 63, none, .w false (some 4) fun s => appendA 1 16 s.m (s.get 59) (s.get 62)⟩,qC 64 9,qF 65 fun s => bslF 1 (bslA 1 1 [.str []] [(0, (s.get 64))]),⟨some 66, none, .w false (some 7) fun s => appendA 1 16 s.m (s.get 63) (s.get 65)⟩,qC 67 7,qC 68 10,qF 69 fun s => sliceSl 1 (s.get 67) (some (s.get 68)) none,⟨some 70, none, .w false (some 11) fun s => appendA 1 16 s.m (s.get 66) (s.get 69)⟩,qC 7 70] K s := (den_regD hf r10_draw K s).trans (by kernel_rfl)
theorem i3e_eq : den prog ann 63 (.code i3e :: K) s = den prog ann 63 (K) s := den_flat hf (l := []) (by kernel_rfl) K s
theorem r4_eq : den prog ann 63 (.code r4 :: K) s = mreg prog ann 63 (some [0, 1, 2, 7, 8]) [] none [] [qC 18 8,qF 19 fun s => binA prog .add 3 (s.get 18) (.int .i64 1),qC 8 19] K s := (den_reg hf _ K s).trans (by kernel_rfl)
theorem r11_eq : den prog ann 63 (.code r11 :: K) s = mreg prog ann 63 (some [7]) [] none [] [qC 71 7,qC 6 71] K s := (den_reg hf _ K s).trans (by kernel_rfl)
theorem ret_eq : den prog ann 63 (.code .ret :: K) s = finM true [fun s => some (s.get 6)] s := (den_ret hf K s).trans (by kernel_rfl)
theorem nil_eq (s : St) : den prog ann 63 [] s = finM true [fun s => some (s.get 6)] s := (den_nil hf s).trans (by kernel_rfl)
theorem inBlock_eq (id : Nat) (K : List Item) (s : St) : den prog ann 63 (.inBlock id :: K) s = den prog ann 63 K s := den_inBlock hf id K s
theorem exit_eq (id : Nat) (K : List Item) (s : St) : den prog ann 63 (.code (.exit id) :: K) s = exitV prog ann 63 (exitTo id K) s := den_exitV hf id K s
theorem call_eq (v0 v1 v2 : AV) (m : Mem) (h : closedL [v0, v1, v2] = true) : denC prog ann 63 [v0, v1, v2] m = (den prog ann 63 [.code b] ⟨[(0, v0), (1, v1), (2, v2)], 72, Mem.empty⟩).bind fun r => some (r.1, m) := (denC_pure hf (b := b) (by kernel_rfl) (by kernel_rfl) (by kernel_rfl) h m).trans (by kernel_rfl)
theorem pure_eq : (ann 63).pure = true := by kernel_rfl
attribute [simp] b_eq r0_eq r1_eq r2_eq k0_eq l0_eq r3_eq i0_eq i0t_eq i0e_eq k1_eq r5_eq i1_eq i1t_eq i1e_eq r6_eq k2_eq l2_eq r7_eq i2_eq i2t_eq i2e_eq k3_eq r8_eq r9_eq i3_eq i3t_eq r10_eq i3e_eq r4_eq r11_eq ret_eq nil_eq inBlock_eq exit_eq pure_eq
end
end r07_more
namespace r07_joined
noncomputable section
variable (K : List Item) (s : St)
def b : Code := (Try.f65.body).getD .skip
theorem hf : prog.funcs[65]? = some Try.f65 := by kernel_rfl
def r0 := findReg b 0
def r1 := findReg b 1
def r2 := findReg b 2
def k0 := findBlk b 0
def l0 := loopOf k0
def L0 (x0 x3 x4 : AV) (m : Mem) (K : List Item) : Option Res := den prog ann 65 (.code l0 :: .inLoop l0 :: .inBlock 0 :: K) ⟨[(0, x0), (3, x3), (4, x4)], 19, m⟩
def r3 := findReg b 3
def i0 := findCond b 0
def i0t := thenOf i0
def i0e := elseOf i0
def k1 := findBlk b 1
def r5 := findReg b 5
def r4 := findReg b 4
def r6 := findReg b 6
theorem b_eq : den prog ann 65 (.code b :: K) s = den prog ann 65 (.code r0 :: .code r1 :: .code r2 :: .code k0 :: .code r6 :: .code .ret :: K) s := den_flat hf (l := [r0, r1, r2, k0, r6, .ret]) (by kernel_rfl) K s
theorem r0_eq : den prog ann 65 (.code r0 :: K) s = mreg prog ann 65 none [] none [] [qF 2 fun s => some (.str [])] K s := (den_reg hf _ K s).trans (by kernel_rfl)
theorem r1_eq : den prog ann 65 (.code r1 :: K) s = mreg prog ann 65 none [] none [] [qF 3 fun s => some (.str [])] K s := (den_reg hf _ K s).trans (by kernel_rfl)
theorem r2_eq : den prog ann 65 (.code r2 :: K) s = mreg prog ann 65 none [] none [] [qF 4 fun s => some (.int .i64 0)] K s := (den_reg hf _ K s).trans (by kernel_rfl)
theorem k0_eq (K : List Item) (t : List (Nat × AV)) (m : Mem) : den prog ann 65 (.code k0 :: K) ⟨t, 19, m⟩ = L0 (get t 0) (get t 3) (get t 4) m K := den_loop_enter hf (b := l0) (id := 3) (l := [0, 3, 4]) (by kernel_rfl) (by kernel_rfl) (by kernel_rfl) K _
theorem l0_eq (K : List Item) (t : List (Nat × AV)) (m : Mem) : den prog ann 65 (.inLoop l0 :: .inBlock 0 :: K) ⟨t, 19, m⟩ = L0 (get t 0) (get t 3) (get t 4) m K := den_loop_again hf (id := 3) (l := [0, 3, 4]) (by kernel_rfl) (by kernel_rfl) (.inBlock 0 :: K) _
theorem L0_eq (x0 x3 x4 : AV) (m : Mem) (K : List Item) : L0 x0 x3 x4 m K = den prog ann 65 (.code r3 :: .code i0 :: .code k1 :: .code r4 :: .inLoop l0 :: .inBlock 0 :: K) ⟨[(0, x0), (3, x3), (4, x4)], 19, m⟩ := den_flat hf (l := [r3, i0, k1, r4]) (by kernel_rfl) _ _
theorem r3_eq : den prog ann 65 (.code r3 :: K) s = mreg prog ann 65 (some [0, 3, 4]) [] none [] [qC 5 4,qC 6 0,qA 7 lenSl 6,qB 8 (binA prog .lss 3) 5 7] K s := (den_reg hf _ K s).trans (by kernel_rfl)
theorem i0_eq : den prog ann 65 (.code i0 :: K) s = ifV prog ann 65 8 i0t i0e K s (s.get 8) := den_if hf (by kernel_rfl) K s
theorem i0t_eq : den prog ann 65 (.code i0t :: K) s = den prog ann 65 (K) s := den_flat hf (l := []) (by kernel_rfl) K s
theorem i0e_eq : den prog ann 65 (.code i0e :: K) s = den prog ann 65 (.code (.exit 0) :: K) s := den_flat hf (l := [(.exit 0)]) (by kernel_rfl) K s
theorem k1_eq : den prog ann 65 (.code k1 :: K) s = den prog ann 65 (.code r5 :: .inBlock 1 :: K) s := den_blk hf (b := blkOf k1) (l := [r5]) (by kernel_rfl) (by kernel_rfl) K s
theorem r5_eq : den prog ann 65 (.code r5 :: K) s = mreg prog ann 65 none [] none [] [qC 11 3,qC 12 0,qC 13 4,qB 14 (idxSl 1) 12 13,qA 15 (loadF false 1) 14,qF 16 fun s => binA prog .add 9 (s.get 15) (.str [47]),qB 17 (binA prog .add 9) 11 16,qC 3 17] K s := (den_reg hf _ K s).trans (by kernel_rfl)
theorem r4_eq : den prog ann 65 (.code r4 :: K) s = mreg prog ann 65 (some [0, 3, 4]) [] none [] [qC 9 4,qF 10 fun s => binA prog .add 3 (s.get 9) (.int .i64 1),qC 4 10] K s := (den_reg hf _ K s).trans (by kernel_rfl)
theorem r6_eq : den prog ann 65 (.code r6 :: K) s = mreg prog ann 65 (some [3]) [] none [] [qC 18 3,qC 2 18] K s := (den_reg hf _ K s).trans (by kernel_rfl)
theorem ret_eq : den prog ann 65 (.code .ret :: K) s = finM true [fun s => some (s.get 2)] s := (den_ret hf K s).trans (by kernel_rfl)
theorem nil_eq (s : St) : den prog ann 65 [] s = finM true [fun s => some (s.get 2)] s := (den_nil hf s).trans (by kernel_rfl)
theorem inBlock_eq (id : Nat) (K : List Item) (s : St) : den prog ann 65 (.inBlock id :: K) s = den prog ann 65 K s := den_inBlock hf id K s
theorem exit_eq (id : Nat) (K : List Item) (s : St) : den prog ann 65 (.code (.exit id) :: K) s = exitV prog ann 65 (exitTo id K) s := den_exitV hf id K s
theorem call_eq (v0 : AV) (m : Mem) (h : closedL [v0] = true) : denC prog ann 65 [v0] m = (den prog ann 65 [.code b] ⟨[(0, v0)], 19, Mem.empty⟩).bind fun r => some (r.1, m) := (denC_pure hf (b := b) (by kernel_rfl) (by kernel_rfl) (by kernel_rfl) h m).trans (by kernel_rfl)
theorem pure_eq : (ann 65).pure = true := by kernel_rfl
attribute [simp] b_eq r0_eq r1_eq r2_eq k0_eq l0_eq r3_eq i0_eq i0t_eq i0e_eq k1_eq r5_eq r4_eq r6_eq ret_eq nil_eq inBlock_eq exit_eq pure_eq
end
end r07_joined
end Go.Proofs.Ythnpflkpjimkfaa

/-
  PARTS OF WORDS, AS LISTS: the small functions. Conditions: none.
-/
namespace Go.Proofs.Ythnpflkpjimkfaa
open Go.AM
open Go.Proofs.Try (prog)
set_option linter.all false
set_option maxRecDepth 100000
set_option maxHeartbeats 8000000
abbrev WL := List (List UInt8)
def sF (ex : Bool) (l : WL) : AV := .fsl ex l.length (l.map .str)
theorem sF_is (ex : Bool) (l : WL) : IsS (sF ex l) l := .inr ⟨ex, rfl⟩
def nameL (l : WL) : List UInt8 := l.flatMap fun p => 32 :: p
def joinL (l : WL) : List UInt8 := l.flatMap fun p => p ++ [47]
theorem nameL_take {l : WL} {i : Nat} (hi : i < l.length) : nameL (l.take (i + 1)) = nameL (l.take i) ++ 32 :: l[i] := by
  rw [List.take_add_one, List.getElem?_eq_getElem hi, nameL, List.flatMap_append]
  simp [nameL]
theorem joinL_take {l : WL} {i : Nat} (hi : i < l.length) : joinL (l.take (i + 1)) = joinL (l.take i) ++ (l[i] ++ [47]) := by
  rw [List.take_add_one, List.getElem?_eq_getElem hi, joinL, List.flatMap_append]
  simp [joinL]
theorem flat_le {f : List UInt8 → List UInt8} {d : Nat} : ∀ {l : WL}, (∀ w ∈ l, (f w).length ≤ d) → (l.flatMap f).length ≤ l.length * d
  | [], _ => by simp
  | a :: l, h => by
    have := flat_le (l := l) fun w hw => h w (by simp [hw])
    have := h a (by simp)
    simp only [List.flatMap_cons, List.length_append, List.length_cons, Nat.succ_mul]
    omega
theorem name_loop {ex : Bool} {l : WL} (hl : l.length ≤ 1000) (hw : ∀ w ∈ l, w.length ≤ 10) : ∀ (c i : Nat) (m : Mem), i + c = l.length →
    brand_Short_1.L0 (.str (nameL (l.take i))) (sF ex l) (.int .i64 l.length) (.int .i64 i) m [.code brand_Short_1.r7, .code .ret] = some (.str (nameL l), Mem.empty) := by
  intro c
  induction c with
  | zero =>
    intro i m h1
    have e : i = l.length := by omega
    subst e
    rw [List.take_length, brand_Short_1.L0_eq]
    simp
    done
  | succ c ih =>
    intro i m h1
    have hi : i < l.length := by omega
    have hwi : IntKind.wrap .i64 ((i : Int) + 1) = (i : Int) + 1 := wrap_id (by omega) (by omega)
    have hd := str_head hi
    have hx := List.getElem_mem hi
    have h2 := hw _ hx
    have h3 : (nameL (l.take i)).length ≤ i * 11 := by
      have := flat_le (f := fun p => 32 :: p) (d := 11) (l := l.take i) fun w h => by
        have := hw w (List.mem_of_mem_take h)
        simp; omega
      have e : (l.take i).length = i := by rw [List.length_take]; omega
      rw [e] at this
      exact this
    have st := fun m => ih (i + 1) m (by omega)
    rw [nameL_take hi] at st
    simp only [Int.natCast_add, Int.cast_ofNat_Int] at st
    generalize l[i] = p at *
    generalize nameL (l.take i) = q at *
    have b1 : 1 + p.length ≤ 4611686018427387904 := by omega
    have b2 : q.length + (1 + p.length) ≤ 4611686018427387904 := by omega
    have b3 : q.length + (p.length + 1) ≤ 4611686018427387904 := by omega
    rw [brand_Short_1.L0_eq]
    simp [hi, (sF_is ex l).idx hi, hd, hwi, st, b1, b2, b3, show p.length + 1 ≤ 4611686018427387904 by omega, -List.head?_drop, -List.map_drop]
    done
theorem name_spec {ex : Bool} {l : WL} (hl : l.length ≤ 1000) (hw : ∀ w ∈ l, w.length ≤ 10) (m : Mem) : denC prog ann 57 [sF ex l] m = some (.str (nameL l), m) := by
  have lp := fun m => name_loop (ex := ex) hl hw l.length 0 m (by omega)
  have e0 : nameL (l.take 0) = [] := by simp [nameL]
  rw [e0] at lp
  simp only [Int.ofNat_zero, Int.cast_ofNat_Int] at lp
  rw [brand_Short_1.call_eq _ _ (by simp [(sF_is ex l).closed])]
  simp [(sF_is ex l).len, lp]
  done
theorem join_loop {ex : Bool} {l : WL} (hl : l.length ≤ 1000) (hw : ∀ w ∈ l, w.length ≤ 10) : ∀ (c i : Nat) (m : Mem), i + c = l.length →
    r07_joined.L0 (sF ex l) (.str (joinL (l.take i))) (.int .i64 i) m [.code r07_joined.r6, .code .ret] = some (.str (joinL l), Mem.empty) := by
  intro c
  induction c with
  | zero =>
    intro i m h1
    have e : i = l.length := by omega
    subst e
    rw [List.take_length, r07_joined.L0_eq]
    simp [(sF_is ex l).len]
    done
  | succ c ih =>
    intro i m h1
    have hi : i < l.length := by omega
    have hwi : IntKind.wrap .i64 ((i : Int) + 1) = (i : Int) + 1 := wrap_id (by omega) (by omega)
    have hd := str_head hi
    have hx := List.getElem_mem hi
    have h2 := hw _ hx
    have h3 : (joinL (l.take i)).length ≤ i * 11 := by
      have := flat_le (f := fun p => p ++ [47]) (d := 11) (l := l.take i) fun w h => by
        have := hw w (List.mem_of_mem_take h)
        simp; omega
      have e : (l.take i).length = i := by rw [List.length_take]; omega
      rw [e] at this
      exact this
    have st := fun m => ih (i + 1) m (by omega)
    rw [joinL_take hi] at st
    simp only [Int.natCast_add, Int.cast_ofNat_Int] at st
    generalize l[i] = p at *
    generalize joinL (l.take i) = q at *
    have b2 : q.length + (p.length + 1) ≤ 4611686018427387904 := by omega
    rw [r07_joined.L0_eq]
    simp [(sF_is ex l).len, hi, (sF_is ex l).idx hi, hd, hwi, st, b2, show p.length + 1 ≤ 4611686018427387904 by omega, -List.head?_drop, -List.map_drop]
    done
theorem join_spec {ex : Bool} {l : WL} (hl : l.length ≤ 1000) (hw : ∀ w ∈ l, w.length ≤ 10) (m : Mem) : denC prog ann 65 [sF ex l] m = some (.str (joinL l), m) := by
  have lp := fun m => join_loop (ex := ex) hl hw l.length 0 m (by omega)
  have e0 : joinL (l.take 0) = [] := by simp [joinL]
  rw [e0] at lp
  simp only [Int.ofNat_zero, Int.cast_ofNat_Int] at lp
  rw [r07_joined.call_eq _ _ (by simp [(sF_is ex l).closed])]
  simp [lp]
  done
theorem long_spec {ex : Bool} {u w : List UInt8} (m : Mem) : denC prog ann 60 [.fsl ex 2 [.str u, .str w]] m = some (.int .i64 ((max u.length w.length : Nat) : Int), m) := by
  rw [brand_Short_2.call_eq _ _ (by simp)]
  simp [foldA, max2A]
  rcases Nat.le_total u.length w.length with h | h
  · simp [Nat.max_eq_right h]; try omega
  · simp [Nat.max_eq_left h]; try omega
theorem p86 : (ann 86).pure = false := by kernel_rfl
theorem cmp86 (x y : List UInt8) (m : Mem) : denC prog ann 86 [.str x, .str y] m = some (.int .i64 (cmpL x y), m) := by
  rw [denC_sort (fn := Try.f86) (by kernel_rfl) (b := (Try.f86.body).getD .skip) (by kernel_rfl) (by kernel_rfl)]
  rfl
theorem cmp_less : ∀ x y : List UInt8, decide (cmpL x y < 0) = Op.bytesLess x y
  | [], [] => rfl
  | [], _ :: _ => rfl
  | _ :: _, [] => rfl
  | a :: x, b :: y => by
    rw [cmpL, Op.bytesLess, ← cmp_less x y]
    by_cases h : a < b
    · simp [h]
    · by_cases h2 : b < a
      · have : a ≠ b := by rintro rfl; exact absurd h2 h
        simp [h, h2, this]
      · have : a = b := UInt8.le_antisymm (UInt8.not_lt.1 h2) (UInt8.not_lt.1 h)
        simp [this]
theorem compare_spec (x y : List UInt8) (hx : x.length ≤ 1000000) (hy : y.length ≤ 1000000) (m : Mem) : ∃ n : Int, denC prog ann 61 [.str x, .str y] m = some (.int .i64 n, m) ∧ decide (n < 0) = lessW x y := by
  by_cases q : x.length = y.length
  · refine ⟨cmpL x y, ?_, by rw [cmp_less, lessW, q]; simp⟩
    rw [brand_compare.call_eq _ _ _ (by simp)]
    simp [q, cmp86, p86]
    done
  · refine ⟨(x.length : Int) - y.length, ?_, by
      rw [lessW]
      simp [q]
      try omega⟩
    have q' : ¬ ((x.length : Nat) : Int) = (y.length : Nat) := by omega
    have hw : IntKind.wrap .i64 ((x.length : Int) - y.length) = (x.length : Int) - y.length := wrap_id (by omega) (by omega)
    rw [brand_compare.call_eq _ _ _ (by simp)]
    simp [q', hw]
    done
def idxS (l : WL) (x : List UInt8) : Int := if x ∈ l then ((l.idxOf x : Nat) : Int) else -1
theorem indexS_loop {ex : Bool} {l : WL} {x : List UInt8} (hl : l.length ≤ 1000) : ∀ (c j : Nat) (m : Mem), j + c = l.length → (∀ i, i < j → l[i]? ≠ some x) →
    slices_Index_string.L0 (sF ex l) (.str x) (.int .i64 l.length) (.int .i64 j) m [.code slices_Index_string.r7, .code .ret] = some (.int .i64 (idxS l x), Mem.empty) := by
  intro c
  induction c with
  | zero =>
    intro j m h1 h0
    have e : j = l.length := by omega
    subst e
    have : x ∉ l := by
      intro hs
      obtain ⟨i, hi⟩ := List.getElem?_of_mem hs
      exact h0 i (List.getElem?_eq_some_iff.1 hi).1 hi
    rw [idxS, if_neg this, slices_Index_string.L0_eq]
    simp
    done
  | succ c ih =>
    intro j m h1 h0
    have hj : j < l.length := by omega
    have hwj : IntKind.wrap .i64 ((j : Int) + 1) = (j : Int) + 1 := wrap_id (by omega) (by omega)
    have hx := List.getElem?_eq_getElem hj
    have hd := str_head hj
    generalize l[j] = y at hx hd
    by_cases q : y = x
    · subst q
      have hm := List.mem_of_getElem? hx
      have hi : l.idxOf y = j := by
        have h2 : l.idxOf y < l.length := List.idxOf_lt_length_iff.2 hm
        have h3 : l[l.idxOf y]? = some y := by rw [List.getElem?_eq_getElem h2]; simp
        rcases Nat.lt_trichotomy (l.idxOf y) j with c | c | c
        · exact absurd h3 (h0 _ c)
        · exact c
        · exfalso
          have e := (List.getElem?_eq_some_iff.1 hx).2
          have := List.not_of_lt_findIdx (xs := l) (p := (· == y)) (i := j) (by simpa [List.idxOf] using c)
          simp [e] at this
      rw [idxS, if_pos hm, hi, slices_Index_string.L0_eq]
      simp [hj, (sF_is ex l).idx hj, hd, -List.head?_drop, -List.map_drop]
      done
    · have st := fun m => ih (j + 1) m (by omega) (fun i hi => by
        by_cases e : i = j
        · subst e; rw [hx]; intro e; exact q (Option.some.inj e)
        · exact h0 i (by omega))
      simp only [Int.natCast_add, Int.cast_ofNat_Int] at st
      have q' : decide (x = y) = false := decide_eq_false fun e => q e.symm
      rw [slices_Index_string.L0_eq]
      simp only [decide_eq_false_iff_not] at q'
      simp [hj, (sF_is ex l).idx hj, hd, q', hwj, st, -List.head?_drop, -List.map_drop]
      done
theorem indexS_spec {ex : Bool} {l : WL} {x : List UInt8} (hl : l.length ≤ 1000) (m : Mem) : denC prog ann 91 [sF ex l, .str x] m = some (.int .i64 (idxS l x), m) := by
  have lp := fun m => indexS_loop (ex := ex) (x := x) hl l.length 0 m (by omega) (by omega)
  simp only [Int.ofNat_zero, Int.cast_ofNat_Int] at lp
  rw [slices_Index_string.call_eq _ _ _ (by simp [(sF_is ex l).closed])]
  simp [(sF_is ex l).len, lp]
  done
theorem containsS_spec {ex : Bool} {l : WL} {x : List UInt8} (hl : l.length ≤ 1000) (m : Mem) : denC prog ann 84 [sF ex l, .str x] m = some (.bool (decide (x ∈ l)), m) := by
  have h := fun m => indexS_spec (ex := ex) (x := x) hl m
  have e : decide (0 ≤ idxS l x) = decide (x ∈ l) := by
    unfold idxS
    by_cases q : x ∈ l <;> simp [q]
  rw [slices_Contains_string.call_eq _ _ _ (by simp [(sF_is ex l).closed])]
  simp [h, (sF_is ex l).closed, (sF_is ex l).one, ← e]
  done
end Go.Proofs.Ythnpflkpjimkfaa
