/-
  BODIES OF FUNCTIONS OF THE PROGRAM AS SMALL OPERATIONS (written by gen.py; checked by the kernel against the program). Conditions: none.
-/
import Derived.Test.YthnpflkpjimkfaaKAmH
import Derived.Test.YthnpflkpjimkfaaK07
import Derived.Test.YthnpflkpjimkfaaK00
import Derived.Test.YthnpflkpjimkfaaK05
set_option linter.all false
namespace Go.Proofs.Ythnpflkpjimkfaa
open Go.AM
open Go.Proofs.Try (prog)
set_option maxRecDepth 100000
set_option linter.all false
namespace l07_BrandGroups
noncomputable section
variable (K : List Item) (s : St)
def b : Code := (Try.f15.body).getD .skip
theorem hf : prog.funcs[15]? = some Try.f15 := by kernel_rfl
def r0 := findReg b 0
def r1 := findReg b 1
def r2 := findReg b 2
def i0 := findCond b 0
def i0t := thenOf i0
def i0e := elseOf i0
def r3 := findReg b 3
def r4 := findReg b 4
def i1 := findCond b 1
def i1t := thenOf i1
def i1e := elseOf i1
def r5 := findReg b 5
def r6 := findReg b 6
def r7 := findReg b 7
def r8 := findReg b 8
def r9 := findReg b 9
def i2 := findCond b 2
def i2t := thenOf i2
def i2e := elseOf i2
def r10 := findReg b 10
def r11 := findReg b 11
def r12 := findReg b 12
def i3 := findCond b 3
def i3t := thenOf i3
def i3e := elseOf i3
def r13 := findReg b 13
def r14 := findReg b 14
def i4 := findCond b 4
def i4t := thenOf i4
def i4e := elseOf i4
def r15 := findReg b 15
def r16 := findReg b 16
def r17 := findReg b 17
def r18 := findReg b 18
def k0 := findBlk b 0
def l0 := loopOf k0
def L0 (x6 x7 x8 x9 x10 x11 x15 x17 x18 x19 : AV) (m : Mem) (K : List Item) : Option Res := den prog ann 15 (.code l0 :: .inLoop l0 :: .inBlock 0 :: K) ⟨[(6, x6), (7, x7), (8, x8), (9, x9), (10, x10), (11, x11), (15, x15), (17, x17), (18, x18), (19, x19)], 211, m⟩
def r19 := findReg b 19
def i5 := findCond b 5
def i5t := thenOf i5
def i5e := elseOf i5
def k1 := findBlk b 1
def r21 := findReg b 21
def r22 := findReg b 22
def i6 := findCond b 6
def i6t := thenOf i6
def i6e := elseOf i6
def r23 := findReg b 23
def r20 := findReg b 20
def r24 := findReg b 24
def r25 := findReg b 25
def r26 := findReg b 26
def r27 := findReg b 27
def k2 := findBlk b 2
def l2 := loopOf k2
def L2 (x6 x7 x8 x9 x10 x11 x15 x17 x18 x21 x22 x23 x24 x25 : AV) (m : Mem) (K : List Item) : Option Res := den prog ann 15 (.code l2 :: .inLoop l2 :: .inBlock 2 :: K) ⟨[(6, x6), (7, x7), (8, x8), (9, x9), (10, x10), (11, x11), (15, x15), (17, x17), (18, x18), (21, x21), (22, x22), (23, x23), (24, x24), (25, x25)], 211, m⟩
def r28 := findReg b 28
def i7 := findCond b 7
def i7t := thenOf i7
def i7e := elseOf i7
def k3 := findBlk b 3
def r30 := findReg b 30
def i8 := findCond b 8
def i8t := thenOf i8
def i8e := elseOf i8
def r31 := findReg b 31
def r29 := findReg b 29
def r32 := findReg b 32
theorem b_eq : den prog ann 15 (.code b :: K) s = den prog ann 15 (.code r0 :: .code r1 :: .code r2 :: .code i0 :: .code r6 :: .code r7 :: .code r8 :: .code r9 :: .code i2 :: .code r14 :: .code i4 :: .code r16 :: .code r17 :: .code r18 :: .code k0 :: .code r24 :: .code r25 :: .code r26 :: .code r27 :: .code k2 :: .code r32 :: .code .ret :: K) s := den_flat hf (l := [r0, r1, r2, i0, r6, r7, r8, r9, i2, r14, i4, r16, r17, r18, k0, r24, r25, r26, r27, k2, r32, .ret]) (by kernel_rfl) K s
theorem r0_eq : den prog ann 15 (.code r0 :: K) s = mreg prog ann 15 none [] none [] [qA 1 frozenPtr 0,qF 2 fun s => some (.bool false)] K s := (den_reg hf _ K s).trans (by kernel_rfl)
theorem r1_eq : den prog ann 15 (.code r1 :: K) s = mreg prog ann 15 none [] none [3] [qA 26 (loadF true 2) 1,⟨some 27, none, .c 0 (fun s => (.fn 17 [] [])) fun s => [(s.get 26)]⟩,⟨some 3, none, .w false none fun s => newPtr s.m [.nils, .nils]⟩,⟨none, none, .w false none fun s => stA true 2 s.m (s.get 3) (s.get 27)⟩] K s := (den_reg hf _ K s).trans (by kernel_rfl)
theorem r2_eq : den prog ann 15 (.code r2 :: K) s = mreg prog ann 15 none [] none [] [qA 28 (loadF true 2) 3,⟨some 29, none, .c 0 (fun s => (.fn 19 [] [])) fun s => [(s.get 28)]⟩] K s := (den_reg hf _ K s).trans (by kernel_rfl)
theorem i0_eq : den prog ann 15 (.code i0 :: K) s = ifV prog ann 15 29 i0t i0e K s (s.get 29) := den_if hf (by kernel_rfl) K s
theorem i0t_eq : den prog ann 15 (.code i0t :: K) s = den prog ann 15 (.code r3 :: .code r4 :: .code i1 :: K) s := den_flat hf (l := [r3, r4, i1]) (by kernel_rfl) K s
theorem r3_eq : den prog ann 15 (.code r3 :: K) s = mreg prog ann 15 none [] none [4] [qA 31 (loadF true 2) 3,⟨some 32, none, .c 2 (fun s => (.fn 29 [] [])) fun s => [(s.get 31)]⟩,⟨some 33, none, .c 0 (fun s => (.fn 41 [] [])) fun s => [(s.get 32)]⟩,qC 30 33,qF 34 fun s => extA (s.get 30) 0,qF 35 fun s => extA (s.get 30) 1,⟨some 4, none, .w false none fun s => newPtr s.m [.nils, .nils]⟩,⟨none, none, .w false none fun s => stA true 2 s.m (s.get 4) (s.get 34)⟩,qC 5 35] K s := (den_reg hf _ K s).trans (by kernel_rfl)
theorem r4_eq : den prog ann 15 (.code r4 :: K) s = mreg prog ann 15 none [] none [] [qC 36 5,qC 37 36,⟨some 38, some (37, true), .v fun s => fieldA 1 (s.get 4)⟩,⟨some 39, some (37, true), .v fun s => loadF false 1 (s.get 38)⟩,⟨some 40, some (37, true), .v fun s => lenSl (s.get 39)⟩,⟨some 41, some (37, true), .v fun s => binA prog .gtr 3 (s.get 40) (.int .i64 60)⟩,qF 42 fun s => pickA (s.get 37) (s.get 41) (.bool false)] K s := (den_reg hf _ K s).trans (by kernel_rfl)
theorem i1_eq : den prog ann 15 (.code i1 :: K) s = ifV prog ann 15 42 i1t i1e K s (s.get 42) := den_if hf (by kernel_rfl) K s
theorem i1t_eq : den prog ann 15 (.code i1t :: K) s = den prog ann 15 (.code r5 :: .code .ret :: K) s := den_flat hf (l := [r5, .ret]) (by kernel_rfl) K s
theorem r5_eq : den prog ann 15 (.code r5 :: K) s = mreg prog ann 15 none [] none [] [⟨some 43, none, .c 0 (fun s => (.fn 21 [] [])) fun s => []⟩,qC 2 43] K s := (den_reg hf _ K s).trans (by kernel_rfl)
theorem i1e_eq : den prog ann 15 (.code i1e :: K) s = den prog ann 15 (K) s := den_flat hf (l := []) (by kernel_rfl) K s
theorem i0e_eq : den prog ann 15 (.code i0e :: K) s = den prog ann 15 (K) s := den_flat hf (l := []) (by kernel_rfl) K s
theorem r6_eq : den prog ann 15 (.code r6 :: K) s = mreg prog ann 15 (some [3]) [] none [] [qA 45 (loadF true 2) 3,⟨some 46, none, .c 0 (fun s => (.fn 44 [] [])) fun s => [(s.get 45)]⟩,qC 44 46,qF 47 fun s => extA (s.get 44) 0,qF 48 fun s => extA (s.get 44) 1,qF 49 fun s => extA (s.get 44) 2,qC 6 47,qC 7 48,qC 8 49] K s := (den_reg hf _ K s).trans (by kernel_rfl)
theorem r7_eq : den prog ann 15 (.code r7 :: K) s = mreg prog ann 15 none [] none [] [qA 51 (loadF true 2) 3,⟨some 52, none, .c 0 (fun s => (.fn 52 [] [])) fun s => [(s.get 51)]⟩,qC 50 52,qF 53 fun s => extA (s.get 50) 0,qF 54 fun s => extA (s.get 50) 1,qF 55 fun s => extA (s.get 50) 2,qC 9 53,qC 10 54,qC 11 55] K s := (den_reg hf _ K s).trans (by kernel_rfl)
theorem r8_eq : den prog ann 15 (.code r8 :: K) s = mreg prog ann 15 none [] none [] [qF 12 fun s => some (.int .i64 0)] K s := (den_reg hf _ K s).trans (by kernel_rfl)
theorem r9_eq : den prog ann 15 (.code r9 :: K) s = mreg prog ann 15 none [] none [] [qA 56 (loadF true 2) 3,⟨some 57, none, .c 0 (fun s => (.fn 19 [] [])) fun s => [(s.get 56)]⟩,qA 58 (unA .not) 57] K s := (den_reg hf _ K s).trans (by kernel_rfl)
theorem i2_eq : den prog ann 15 (.code i2 :: K) s = ifV prog ann 15 58 i2t i2e K s (s.get 58) := den_if hf (by kernel_rfl) K s
theorem i2t_eq : den prog ann 15 (.code i2t :: K) s = den prog ann 15 (.code r10 :: K) s := den_flat hf (l := [r10]) (by kernel_rfl) K s
theorem r10_eq : den prog ann 15 (.code r10 :: K) s = mreg prog ann 15 none [] none [] [qF 12 fun s => some (.int .i64 1)] K s := (den_reg hf _ K s).trans (by kernel_rfl)
theorem i2e_eq : den prog ann 15 (.code i2e :: K) s = den prog ann 15 (.code r11 :: .code r12 :: .code i3 :: K) s := den_flat hf (l := [r11, r12, i3]) (by kernel_rfl) K s
theorem r11_eq : den prog ann 15 (.code r11 :: K) s = mreg prog ann 15 none [] none [13] [qA 60 (loadF true 2) 3,⟨some 61, none, .c 2 (fun s => (.fn 29 [] [])) fun s => [(s.get 60)]⟩,⟨some 62, none, .c 0 (fun s => (.fn 41 [] [])) fun s => [(s.get 61)]⟩,qC 59 62,qF 63 fun s => extA (s.get 59) 0,qF 64 fun s => extA (s.get 59) 1,⟨some 13, none, .w false none fun s => newPtr s.m [.nils, .nils]⟩,⟨none, none, .w false none fun s => stA true 2 s.m (s.get 13) (s.get 63)⟩,qC 14 64] K s := (den_reg hf _ K s).trans (by kernel_rfl)
theorem r12_eq : den prog ann 15 (.code r12 :: K) s = mreg prog ann 15 none [] none [] [qC 65 14,qA 66 (unA .not) 65] K s := (den_reg hf _ K s).trans (by kernel_rfl)
theorem i3_eq : den prog ann 15 (.code i3 :: K) s = ifV prog ann 15 66 i3t i3e K s (s.get 66) := den_if hf (by kernel_rfl) K s
theorem i3t_eq : den prog ann 15 (.code i3t :: K) s = den prog ann 15 (.code r13 :: K) s := den_flat hf (l := [r13]) (by kernel_rfl) K s
theorem r13_eq : den prog ann 15 (.code r13 :: K) s = mreg prog ann 15 none [] none [] [qF 12 fun s => some (.int .i64 7)] K s := (den_reg hf _ K s).trans (by kernel_rfl)
theorem i3e_eq : den prog ann 15 (.code i3e :: K) s = den prog ann 15 (K) s := den_flat hf (l := []) (by kernel_rfl) K s
theorem r14_eq : den prog ann 15 (.code r14 :: K) s = mreg prog ann 15 (some [3, 6, 7, 8, 9, 10, 11, 12]) [] none [] [qC 67 12,qF 68 fun s => binA prog .neq 27 (s.get 67) (.int .i64 0)] K s := (den_reg hf _ K s).trans (by kernel_rfl)
theorem i4_eq : den prog ann 15 (.code i4 :: K) s = ifV prog ann 15 68 i4t i4e K s (s.get 68) := den_if hf (by kernel_rfl) K s
theorem i4t_eq : den prog ann 15 (.code i4t :: K) s = den prog ann 15 (.code r15 :: .code .ret :: K) s := den_flat hf (l := [r15, .ret]) (by kernel_rfl) K s
theorem r15_eq : den prog ann 15 (.code r15 :: K) s = mreg prog ann 15 none [] none [] [qC 69 6,qF 70 fun s => binA prog .eql 9 (s.get 69) (.str []),qC 71 70,⟨some 72, some (71, true), .v fun s => some (s.get 7)⟩,⟨some 73, some (71, true), .v fun s => binA prog .eql 3 (s.get 72) (.int .i64 0)⟩,qF 74 fun s => pickA (s.get 71) (s.get 73) (.bool false),qC 75 74,⟨some 76, some (75, true), .v fun s => some (s.get 8)⟩,⟨some 77, some (75, true), .v fun s => some (s.get 12)⟩,⟨some 78, some (75, true), .v fun s => binA prog .eql 27 (s.get 76) (s.get 77)⟩,qF 79 fun s => pickA (s.get 75) (s.get 78) (.bool false),qC 80 79,⟨some 81, some (80, true), .v fun s => some (s.get 9)⟩,⟨some 82, some (80, true), .v fun s => binA prog .eql 9 (s.get 81) (.str [])⟩,qF 83 fun s => pickA (s.get 80) (s.get 82) (.bool false),qC 84 83,⟨some 85, some (84, true), .v fun s => some (s.get 10)⟩,⟨some 86, some (84, true), .v fun s => binA prog .eql 9 (s.get 85) (.str [])⟩,qF 87 fun s => pickA (s.get 84) (s.get 86) (.bool false),qC 88 87,⟨some 89, some (88, true), .v fun s => some (s.get 11)⟩,⟨some 90, some (88, true), .v fun s => some (s.get 12)⟩,⟨some 91, some (88, true), .v fun s => binA prog .eql 27 (s.get 89) (s.get 90)⟩,qF 92 fun s => pickA (s.get 88) (s.get 91) (.bool false),qC 93 92,⟨some 94, some (93, true), .c 0 (fun s => (.fn 21 [] [])) fun s => []⟩,qF 95 fun s => pickA (s.get 93) (s.get 94) (.bool false),qC 2 95] K s := (den_reg hf _ K s).trans (by kernel_rfl)
theorem i4e_eq : den prog ann 15 (.code i4e :: K) s = den prog ann 15 (K) s := den_flat hf (l := []) (by kernel_rfl) K s
theorem r16_eq : den prog ann 15 (.code r16 :: K) s = mreg prog ann 15 none [] none [15] [qA 97 (loadF true 2) 3,⟨some 98, none, .c 2 (fun s => (.fn 29 [] [])) fun s => [(s.get 97)]⟩,⟨some 99, none, .c 0 (fun s => (.fn 41 [] [])) fun s => [(s.get 98)]⟩,qC 96 99,qF 100 fun s => extA (s.get 96) 0,qF 101 fun s => extA (s.get 96) 1,⟨some 15, none, .w false none fun s => newPtr s.m [.nils, .nils]⟩,⟨none, none, .w false none fun s => stA true 2 s.m (s.get 15) (s.get 100)⟩,qC 16 101] K s := (den_reg hf _ K s).trans (by kernel_rfl)
theorem r17_eq : den prog ann 15 (.code r17 :: K) s = mreg prog ann 15 none [] none [] [qF 17 fun s => some (.str []),qF 18 fun s => some (.int .i64 0)] K s := (den_reg hf _ K s).trans (by kernel_rfl)
theorem r18_eq : den prog ann 15 (.code r18 :: K) s = mreg prog ann 15 none [] none [] [qF 19 fun s => some (.int .i64 0)] K s := (den_reg hf _ K s).trans (by kernel_rfl)
theorem k0_eq (K : List Item) (t : List (Nat × AV)) (m : Mem) : den prog ann 15 (.code k0 :: K) ⟨t, 211, m⟩ = L0 (get t 6) (get t 7) (get t 8) (get t 9) (get t 10) (get t 11) (get t 15) (get t 17) (get t 18) (get t 19) m K := den_loop_enter hf (b := l0) (id := 19) (l := [6, 7, 8, 9, 10, 11, 15, 17, 18, 19]) (by kernel_rfl) (by kernel_rfl) (by kernel_rfl) K _
theorem l0_eq (K : List Item) (t : List (Nat × AV)) (m : Mem) : den prog ann 15 (.inLoop l0 :: .inBlock 0 :: K) ⟨t, 211, m⟩ = L0 (get t 6) (get t 7) (get t 8) (get t 9) (get t 10) (get t 11) (get t 15) (get t 17) (get t 18) (get t 19) m K := den_loop_again hf (id := 19) (l := [6, 7, 8, 9, 10, 11, 15, 17, 18, 19]) (by kernel_rfl) (by kernel_rfl) (.inBlock 0 :: K) _
theorem L0_eq (x6 x7 x8 x9 x10 x11 x15 x17 x18 x19 : AV) (m : Mem) (K : List Item) : L0 x6 x7 x8 x9 x10 x11 x15 x17 x18 x19 m K = den prog ann 15 (.code r19 :: .code i5 :: .code k1 :: .code r20 :: .inLoop l0 :: .inBlock 0 :: K) ⟨[(6, x6), (7, x7), (8, x8), (9, x9), (10, x10), (11, x11), (15, x15), (17, x17), (18, x18), (19, x19)], 211, m⟩ := den_flat hf (l := [r19, i5, k1, r20]) (by kernel_rfl) _ _
theorem r19_eq : den prog ann 15 (.code r19 :: K) s = mreg prog ann 15 (some [6, 7, 8, 9, 10, 11, 15, 17, 18, 19]) [] none [] [qC 102 19,qA 103 (fieldA 1) 15,qA 104 (loadF false 1) 103,qA 105 lenSl 104,qB 106 (binA prog .lss 3) 102 105,qC 107 106,⟨some 108, some (107, true), .v fun s => some (s.get 18)⟩,⟨some 109, some (107, true), .v fun s => binA prog .eql 3 (s.get 108) (.int .i64 0)⟩,qF 110 fun s => pickA (s.get 107) (s.get 109) (.bool false)] K s := (den_reg hf _ K s).trans (by kernel_rfl)
theorem i5_eq : den prog ann 15 (.code i5 :: K) s = ifV prog ann 15 110 i5t i5e K s (s.get 110) := den_if hf (by kernel_rfl) K s
theorem i5t_eq : den prog ann 15 (.code i5t :: K) s = den prog ann 15 (K) s := den_flat hf (l := []) (by kernel_rfl) K s
theorem i5e_eq : den prog ann 15 (.code i5e :: K) s = den prog ann 15 (.code (.exit 0) :: K) s := den_flat hf (l := [(.exit 0)]) (by kernel_rfl) K s
theorem k1_eq : den prog ann 15 (.code k1 :: K) s = den prog ann 15 (.code r21 :: .code r22 :: .code i6 :: .inBlock 1 :: K) s := den_blk hf (b := blkOf k1) (l := [r21, r22, i6]) (by kernel_rfl) (by kernel_rfl) K s
theorem r21_eq : den prog ann 15 (.code r21 :: K) s = mreg prog ann 15 none [] none [] [qA 113 (loadF true 2) 15,qC 114 19,⟨some 115, none, .c 0 (fun s => (.fn 53 [] [])) fun s => [(s.get 113), (s.get 114)]⟩,qC 20 115] K s := (den_reg hf _ K s).trans (by kernel_rfl)
theorem r22_eq : den prog ann 15 (.code r22 :: K) s = mreg prog ann 15 none [] none [] [qC 116 20,qF 117 fun s => binA prog .gtr 3 (s.get 116) (.int .i64 1)] K s := (den_reg hf _ K s).trans (by kernel_rfl)
theorem i6_eq : den prog ann 15 (.code i6 :: K) s = ifV prog ann 15 117 i6t i6e K s (s.get 117) := den_if hf (by kernel_rfl) K s
theorem i6t_eq : den prog ann 15 (.code i6t :: K) s = den prog ann 15 (.code r23 :: K) s := den_flat hf (l := [r23]) (by kernel_rfl) K s
theorem r23_eq : den prog ann 15 (.code r23 :: K) s = mreg prog ann 15 none [] none [] [qA 118 (fieldA 1) 15,qA 119 (loadF false 1) 118,qC 120 19,qB 121 (idxSl 1) 119 120,qF 122 fun s => loadA false 1 s.m (s.get 121),qC 123 20,qC 17 122,qC 18 123] K s := (den_reg hf _ K s).trans (by kernel_rfl)
theorem i6e_eq : den prog ann 15 (.code i6e :: K) s = den prog ann 15 (K) s := den_flat hf (l := []) (by kernel_rfl) K s
theorem r20_eq : den prog ann 15 (.code r20 :: K) s = mreg prog ann 15 (some [6, 7, 8, 9, 10, 11, 15, 17, 18, 19]) [] none [] [qC 111 19,qF 112 fun s => binA prog .add 3 (s.get 111) (.int .i64 1),qC 19 112] K s := (den_reg hf _ K s).trans (by kernel_rfl)
theorem r24_eq : den prog ann 15 (.code r24 :: K) s = mreg prog ann 15 (some [6, 7, 8, 9, 10, 11, 15, 17, 18]) [] none [] [qF 21 fun s => some (.str []),qF 22 fun s => some (.str [])] K s := (den_reg hf _ K s).trans (by kernel_rfl)
theorem r25_eq : den prog ann 15 (.code r25 :: K) s = mreg prog ann 15 none [] none [] [qA 124 (loadF true 2) 15,⟨some 125, none, .c 2 (fun s => (.fn 50 [] [])) fun s => [(s.get 124), (.int .i64 2)]⟩,qC 23 125] K s := (den_reg hf _ K s).trans (by kernel_rfl)
theorem r26_eq : den prog ann 15 (.code r26 :: K) s = mreg prog ann 15 none [] none [] [qF 24 fun s => some (.bool false)] K s := (den_reg hf _ K s).trans (by kernel_rfl)
theorem r27_eq : den prog ann 15 (.code r27 :: K) s = mreg prog ann 15 none [] none [] [qF 25 fun s => some (.int .i64 0)] K s := (den_reg hf _ K s).trans (by kernel_rfl)
theorem k2_eq (K : List Item) (t : List (Nat × AV)) (m : Mem) : den prog ann 15 (.code k2 :: K) ⟨t, 211, m⟩ = L2 (get t 6) (get t 7) (get t 8) (get t 9) (get t 10) (get t 11) (get t 15) (get t 17) (get t 18) (get t 21) (get t 22) (get t 23) (get t 24) (get t 25) m K := den_loop_enter hf (b := l2) (id := 28) (l := [6, 7, 8, 9, 10, 11, 15, 17, 18, 21, 22, 23, 24, 25]) (by kernel_rfl) (by kernel_rfl) (by kernel_rfl) K _
theorem l2_eq (K : List Item) (t : List (Nat × AV)) (m : Mem) : den prog ann 15 (.inLoop l2 :: .inBlock 2 :: K) ⟨t, 211, m⟩ = L2 (get t 6) (get t 7) (get t 8) (get t 9) (get t 10) (get t 11) (get t 15) (get t 17) (get t 18) (get t 21) (get t 22) (get t 23) (get t 24) (get t 25) m K := den_loop_again hf (id := 28) (l := [6, 7, 8, 9, 10, 11, 15, 17, 18, 21, 22, 23, 24, 25]) (by kernel_rfl) (by kernel_rfl) (.inBlock 2 :: K) _
theorem L2_eq (x6 x7 x8 x9 x10 x11 x15 x17 x18 x21 x22 x23 x24 x25 : AV) (m : Mem) (K : List Item) : L2 x6 x7 x8 x9 x10 x11 x15 x17 x18 x21 x22 x23 x24 x25 m K = den prog ann 15 (.code r28 :: .code i7 :: .code k3 :: .code r29 :: .inLoop l2 :: .inBlock 2 :: K) ⟨[(6, x6), (7, x7), (8, x8), (9, x9), (10, x10), (11, x11), (15, x15), (17, x17), (18, x18), (21, x21), (22, x22), (23, x23), (24, x24), (25, x25)], 211, m⟩ := den_flat hf (l := [r28, i7, k3, r29]) (by kernel_rfl) _ _
theorem r28_eq : den prog ann 15 (.code r28 :: K) s = mreg prog ann 15 (some [6, 7, 8, 9, 10, 11, 15, 17, 18, 21, 22, 23, 24, 25]) [] none [] [qC 126 25,qC 127 23,qA 128 lenSl 127,qB 129 (binA prog .lss 3) 126 128,qC 130 129,⟨some 131, some (130, true), .v fun s => some (s.get 24)⟩,⟨some 132, some (130, true), .v fun s => unA .not (s.get 131)⟩,qF 133 fun s => pickA (s.get 130) (s.get 132) (.bool false)] K s := (den_reg hf _ K s).trans (by kernel_rfl)
theorem i7_eq : den prog ann 15 (.code i7 :: K) s = ifV prog ann 15 133 i7t i7e K s (s.get 133) := den_if hf (by kernel_rfl) K s
theorem i7t_eq : den prog ann 15 (.code i7t :: K) s = den prog ann 15 (K) s := den_flat hf (l := []) (by kernel_rfl) K s
theorem i7e_eq : den prog ann 15 (.code i7e :: K) s = den prog ann 15 (.code (.exit 2) :: K) s := den_flat hf (l := [(.exit 2)]) (by kernel_rfl) K s
theorem k3_eq : den prog ann 15 (.code k3 :: K) s = den prog ann 15 (.code r30 :: .code i8 :: .inBlock 3 :: K) s := den_blk hf (b := blkOf k3) (l := [r30, i8]) (by kernel_rfl) (by kernel_rfl) K s
theorem r30_eq : den prog ann 15 (.code r30 :: K) s = mreg prog ann 15 none [] none [] [qC 136 23,qC 137 25,qB 138 (idxSl 1) 136 137,qA 139 (loadF false 1) 138,qA 140 lenSl 139,qF 141 fun s => binA prog .gtr 3 (s.get 140) (.int .i64 1)] K s := (den_reg hf _ K s).trans (by kernel_rfl)
theorem i8_eq : den prog ann 15 (.code i8 :: K) s = ifV prog ann 15 141 i8t i8e K s (s.get 141) := den_if hf (by kernel_rfl) K s
theorem i8t_eq : den prog ann 15 (.code i8t :: K) s = den prog ann 15 (.code r31 :: K) s := den_flat hf (l := [r31]) (by kernel_rfl) K s
theorem r31_draw : drawOk (fun g => (ann g).pure) (modeOf (ann 15) (idOf r31)) (frzOf (ann 15) (idOf r31)) (opsOf r31) = true := drawOk_of (an := [0, 1, 0, 0, 12, 28, 60, 124, 255, 511, 0, 1024, 0, 0, 12288, 28672, 61440, 126976, 261120, 523264, 1023, 2097151, 4194303]) (by kernel_rfl) (by kernel_rfl)
theorem r31_eq : den prog ann 15 (.code r31 :: K) s = mreg prog ann 15 none [] (some 23) [] [qA 142 (fieldA 1) 15,qA 143 (loadF false 1) 142,qC 144 23,qC 145 25,qB 146 (idxSl 1) 144 145,qA 147 (loadF false 1) 146,qF 148 fun s => idxSl 1 (s.get 147) (.int .i64 0),qA 149 (loadF false 1) 148,qB 150 (idxSl 1) 143 149,qF 151 fun s => loadA false 1 s.m (s.get 150),qA 152 (fieldA 1) 15,qA 153 (loadF false 1) 152,qC 154 23,qC 155 25,qB 156 (idxSl 1) 154 155,qA 157 (loadF false 1) 156,qF 158 fun s => idxSl 1 (s.get 157) (.int .i64 1),qA 159 (loadF false 1) 158,qB 160 (idxSl 1) 153 159,qF 161 fun s => loadA false 1 s.m (s.get 160),qC 21 151,qC 22 161,qF 24 fun s => some (.bool true)] K s := (den_regD hf r31_draw K s).trans (by kernel_rfl)
theorem i8e_eq : den prog ann 15 (.code i8e :: K) s = den prog ann 15 (K) s := den_flat hf (l := []) (by kernel_rfl) K s
theorem r29_eq : den prog ann 15 (.code r29 :: K) s = mreg prog ann 15 (some [6, 7, 8, 9, 10, 11, 15, 17, 18, 21, 22, 23, 24, 25]) [] none [] [qC 134 25,qF 135 fun s => binA prog .add 3 (s.get 134) (.int .i64 1),qC 25 135] K s := (den_reg hf _ K s).trans (by kernel_rfl)
theorem r32_eq : den prog ann 15 (.code r32 :: K) s = mreg prog ann 15 (some [6, 7, 8, 9, 10, 11, 17, 18, 21, 22, 24]) [] none [] [qC 162 6,qC 163 17,qB 164 (binA prog .eql 9) 162 163,qC 165 164,⟨some 166, some (165, true), .v fun s => some (s.get 7)⟩,⟨some 167, some (165, true), .v fun s => some (s.get 18)⟩,⟨some 168, some (165, true), .v fun s => binA prog .eql 3 (s.get 166) (s.get 167)⟩,qF 169 fun s => pickA (s.get 165) (s.get 168) (.bool false),qC 170 169,⟨some 171, some (170, true), .v fun s => some (s.get 8)⟩,⟨some 172, some (170, true), .v fun s => binA prog .eql 27 (s.get 171) (.int .i64 0)⟩,⟨some 173, some (170, true), .v fun s => some (s.get 18)⟩,⟨some 174, some (170, true), .v fun s => binA prog .gtr 3 (s.get 173) (.int .i64 0)⟩,⟨some 175, some (170, true), .v fun s => binA prog .eql 4 (s.get 172) (s.get 174)⟩,qF 176 fun s => pickA (s.get 170) (s.get 175) (.bool false),qC 177 176,⟨some 178, some (177, true), .v fun s => some (s.get 18)⟩,⟨some 179, some (177, true), .v fun s => binA prog .gtr 3 (s.get 178) (.int .i64 0)⟩,⟨some 180, some (177, true), .v fun s => some (s.get 179)⟩,⟨some 181, some (180, false), .v fun s => some (s.get 8)⟩,⟨some 182, some (180, false), .v fun s => binA prog .eql 27 (s.get 181) (.int .i64 5)⟩,⟨some 183, some (177, true), .v fun s => pickA (s.get 180) (.bool true) (s.get 182)⟩,qF 184 fun s => pickA (s.get 177) (s.get 183) (.bool false),qC 185 184,⟨some 186, some (185, true), .v fun s => some (s.get 9)⟩,⟨some 187, some (185, true), .v fun s => some (s.get 21)⟩,⟨some 188, some (185, true), .v fun s => binA prog .eql 9 (s.get 186) (s.get 187)⟩,qF 189 fun s => pickA (s.get 185) (s.get 188) (.bool false),qC 190 189,⟨some 191, some (190, true), .v fun s => some (s.get 10)⟩,⟨some 192, some (190, true), .v fun s => some (s.get 22)⟩,⟨some 193, some (190, true), .v fun s => binA prog .eql 9 (s.get 191) (s.get 192)⟩,qF 194 fun s => pickA (s.get 190) (s.get 193) (.bool false),qC 195 194,⟨some 196, some (195, true), .v fun s => some (s.get 11)⟩,⟨some 197, some (195, true), .v fun s => binA prog .eql 27 (s.get 196) (.int .i64 0)⟩,⟨some 198, some (195, true), .v fun s => some (s.get 24)⟩,⟨some 199, some (195, true), .v fun s => binA prog .eql 4 (s.get 197) (s.get 198)⟩,qF 200 fun s => pickA (s.get 195) (s.get 199) (.bool false),qC 201 200,⟨some 202, some (201, true), .v fun s => some (s.get 24)⟩,⟨some 203, some (201, true), .v fun s => some (s.get 202)⟩,⟨some 204, some (203, false), .v fun s => some (s.get 11)⟩,⟨some 205, some (203, false), .v fun s => binA prog .eql 27 (s.get 204) (.int .i64 5)⟩,⟨some 206, some (201, true), .v fun s => pickA (s.get 203) (.bool true) (s.get 205)⟩,qF 207 fun s => pickA (s.get 201) (s.get 206) (.bool false),qC 208 207,⟨some 209, some (208, true), .c 0 (fun s => (.fn 21 [] [])) fun s => []⟩,qF 210 fun s => pickA (s.get 208) (s.get 209) (.bool false),qC 2 210] K s := (den_reg hf _ K s).trans (by kernel_rfl)
theorem ret_eq : den prog ann 15 (.code .ret :: K) s = finM true [fun s => some (s.get 2)] s := (den_ret hf K s).trans (by kernel_rfl)
theorem nil_eq (s : St) : den prog ann 15 [] s = finM true [fun s => some (s.get 2)] s := (den_nil hf s).trans (by kernel_rfl)
theorem inBlock_eq (id : Nat) (K : List Item) (s : St) : den prog ann 15 (.inBlock id :: K) s = den prog ann 15 K s := den_inBlock hf id K s
theorem exit_eq (id : Nat) (K : List Item) (s : St) : den prog ann 15 (.code (.exit id) :: K) s = exitV prog ann 15 (exitTo id K) s := den_exitV hf id K s
theorem call_eq (v0 : AV) (m : Mem) (h : closedL [v0] = true) : denC prog ann 15 [v0] m = (den prog ann 15 [.code b] ⟨[(0, v0)], 211, Mem.empty⟩).bind fun r => some (r.1, m) := (denC_pure hf (b := b) (by kernel_rfl) (by kernel_rfl) (by kernel_rfl) h m).trans (by kernel_rfl)
theorem pure_eq : (ann 15).pure = true := by kernel_rfl
attribute [simp] b_eq r0_eq r1_eq r2_eq i0_eq i0t_eq r3_eq r4_eq i1_eq i1t_eq r5_eq i1e_eq i0e_eq r6_eq r7_eq r8_eq r9_eq i2_eq i2t_eq r10_eq i2e_eq r11_eq r12_eq i3_eq i3t_eq r13_eq i3e_eq r14_eq i4_eq i4t_eq r15_eq i4e_eq r16_eq r17_eq r18_eq k0_eq l0_eq r19_eq i5_eq i5t_eq i5e_eq k1_eq r21_eq r22_eq i6_eq i6t_eq r23_eq i6e_eq r20_eq r24_eq r25_eq r26_eq r27_eq k2_eq l2_eq r28_eq i7_eq i7t_eq i7e_eq k3_eq r30_eq i8_eq i8t_eq r31_eq i8e_eq r29_eq r32_eq ret_eq nil_eq inBlock_eq exit_eq pure_eq
end
end l07_BrandGroups
namespace brand_Groups
noncomputable section
variable (K : List Item) (s : St)
def b : Code := (Try.f44.body).getD .skip
theorem hf : prog.funcs[44]? = some Try.f44 := by kernel_rfl
def r0 := findReg b 0
def r1 := findReg b 1
def r2 := findReg b 2
def i0 := findCond b 0
def i0t := thenOf i0
def i0e := elseOf i0
def r3 := findReg b 3
def r4 := findReg b 4
def k0 := findBlk b 0
def l0 := loopOf k0
def L0 (x5 x24 x25 x26 : AV) (m : Mem) (K : List Item) : Option Res := den prog ann 44 (.code l0 :: .inLoop l0 :: .inBlock 0 :: K) ⟨[(5, x5), (24, x24), (25, x25), (26, x26)], 67, m⟩
def r5 := findReg b 5
def i1 := findCond b 1
def i1t := thenOf i1
def i1e := elseOf i1
def k1 := findBlk b 1
def r6 := findReg b 6
def r7 := findReg b 7
def k2 := findBlk b 2
def l2 := loopOf k2
def L2 (x5 x8 x9 x24 x25 x26 : AV) (m : Mem) (K : List Item) : Option Res := den prog ann 44 (.code l2 :: .inLoop l2 :: .inBlock 2 :: K) ⟨[(5, x5), (8, x8), (9, x9), (24, x24), (25, x25), (26, x26)], 67, m⟩
def k3 := findBlk b 3
def r8 := findReg b 8
def r9 := findReg b 9
def r10 := findReg b 10
def i2 := findCond b 2
def i2t := thenOf i2
def i2e := elseOf i2
def r11 := findReg b 11
def r12 := findReg b 12
def r13 := findReg b 13
def i3 := findCond b 3
def i3t := thenOf i3
def i3e := elseOf i3
def r14 := findReg b 14
def r15 := findReg b 15
def r16 := findReg b 16
theorem b_eq : den prog ann 44 (.code b :: K) s = den prog ann 44 (.code r0 :: .code r1 :: .code r2 :: .code i0 :: .code r4 :: .code k0 :: .code r16 :: .code .ret :: K) s := den_flat hf (l := [r0, r1, r2, i0, r4, k0, r16, .ret]) (by kernel_rfl) K s
theorem r0_eq : den prog ann 44 (.code r0 :: K) s = mreg prog ann 44 none [] none [] [qA 1 frozenPtr 0,qF 2 fun s => some (.str []),qF 3 fun s => some (.int .i64 0),qF 4 fun s => some (.int .i64 0)] K s := (den_reg hf _ K s).trans (by kernel_rfl)
theorem r1_eq : den prog ann 44 (.code r1 :: K) s = mreg prog ann 44 none [] none [] [qA 14 (loadF true 2) 1,⟨some 15, none, .c 0 (fun s => (.fn 70 [] [])) fun s => [(s.get 14)]⟩,qC 13 15,qF 16 fun s => extA (s.get 13) 0,qF 17 fun s => extA (s.get 13) 1,qC 5 16,qC 6 17] K s := (den_reg hf _ K s).trans (by kernel_rfl)
theorem r2_eq : den prog ann 44 (.code r2 :: K) s = mreg prog ann 44 none [] none [] [qC 18 6,qF 19 fun s => binA prog .neq 27 (s.get 18) (.int .i64 0)] K s := (den_reg hf _ K s).trans (by kernel_rfl)
theorem i0_eq : den prog ann 44 (.code i0 :: K) s = ifV prog ann 44 19 i0t i0e K s (s.get 19) := den_if hf (by kernel_rfl) K s
theorem i0t_eq : den prog ann 44 (.code i0t :: K) s = den prog ann 44 (.code r3 :: .code .ret :: K) s := den_flat hf (l := [r3, .ret]) (by kernel_rfl) K s
theorem r3_eq : den prog ann 44 (.code r3 :: K) s = mreg prog ann 44 none [] none [] [qC 20 6,qF 2 fun s => some (.str []),qF 3 fun s => some (.int .i64 0),qC 4 20] K s := (den_reg hf _ K s).trans (by kernel_rfl)
theorem i0e_eq : den prog ann 44 (.code i0e :: K) s = den prog ann 44 (K) s := den_flat hf (l := []) (by kernel_rfl) K s
theorem r4_eq : den prog ann 44 (.code r4 :: K) s = mreg prog ann 44 none [] none [] [qC 21 5,qA 22 nilA 21,qA 23 (fieldA 2) 22,qA 24 (loadF false 1) 23,qA 25 lenSl 24,qF 26 fun s => some (.int .i64 0)] K s := (den_reg hf _ K s).trans (by kernel_rfl)
theorem k0_eq (K : List Item) (t : List (Nat × AV)) (m : Mem) : den prog ann 44 (.code k0 :: K) ⟨t, 67, m⟩ = L0 (get t 5) (get t 24) (get t 25) (get t 26) m K := den_loop_enter hf (b := l0) (id := 5) (l := [5, 24, 25, 26]) (by kernel_rfl) (by kernel_rfl) (by kernel_rfl) K _
theorem l0_eq (K : List Item) (t : List (Nat × AV)) (m : Mem) : den prog ann 44 (.inLoop l0 :: .inBlock 0 :: K) ⟨t, 67, m⟩ = L0 (get t 5) (get t 24) (get t 25) (get t 26) m K := den_loop_again hf (id := 5) (l := [5, 24, 25, 26]) (by kernel_rfl) (by kernel_rfl) (.inBlock 0 :: K) _
theorem L0_eq (x5 x24 x25 x26 : AV) (m : Mem) (K : List Item) : L0 x5 x24 x25 x26 m K = den prog ann 44 (.code r5 :: .code i1 :: .code k1 :: .code r15 :: .inLoop l0 :: .inBlock 0 :: K) ⟨[(5, x5), (24, x24), (25, x25), (26, x26)], 67, m⟩ := den_flat hf (l := [r5, i1, k1, r15]) (by kernel_rfl) _ _
theorem r5_eq : den prog ann 44 (.code r5 :: K) s = mreg prog ann 44 (some [5, 24, 25, 26]) [] none [] [qB 27 (binA prog .lss 3) 26 25] K s := (den_reg hf _ K s).trans (by kernel_rfl)
theorem i1_eq : den prog ann 44 (.code i1 :: K) s = ifV prog ann 44 27 i1t i1e K s (s.get 27) := den_if hf (by kernel_rfl) K s
theorem i1t_eq : den prog ann 44 (.code i1t :: K) s = den prog ann 44 (K) s := den_flat hf (l := []) (by kernel_rfl) K s
theorem i1e_eq : den prog ann 44 (.code i1e :: K) s = den prog ann 44 (.code (.exit 0) :: K) s := den_flat hf (l := [(.exit 0)]) (by kernel_rfl) K s
theorem k1_eq : den prog ann 44 (.code k1 :: K) s = den prog ann 44 (.code r6 :: .code r7 :: .code k2 :: .inBlock 1 :: K) s := den_blk hf (b := blkOf k1) (l := [r6, r7, k2]) (by kernel_rfl) (by kernel_rfl) K s
theorem r6_eq : den prog ann 44 (.code r6 :: K) s = mreg prog ann 44 none [] none [] [qC 28 26,qB 29 (idxSl 1) 24 26,qA 30 (loadF false 1) 29,qC 7 28,qC 8 30] K s := (den_reg hf _ K s).trans (by kernel_rfl)
theorem r7_eq : den prog ann 44 (.code r7 :: K) s = mreg prog ann 44 none [] none [] [qC 31 7,⟨some 32, none, .w false none fun s => bslM s.m 1 (bslA 1 1 [.int .i64 0] [(0, (s.get 31))])⟩,qC 9 32] K s := (den_reg hf _ K s).trans (by kernel_rfl)
theorem k2_eq (K : List Item) (t : List (Nat × AV)) (m : Mem) : den prog ann 44 (.code k2 :: K) ⟨t, 67, m⟩ = L2 (get t 5) (get t 8) (get t 9) (get t 24) (get t 25) (get t 26) m K := den_loop_enter hf (b := l2) (id := 8) (l := [5, 8, 9, 24, 25, 26]) (by kernel_rfl) (by kernel_rfl) (by kernel_rfl) K _
theorem l2_eq (K : List Item) (t : List (Nat × AV)) (m : Mem) : den prog ann 44 (.inLoop l2 :: .inBlock 2 :: K) ⟨t, 67, m⟩ = L2 (get t 5) (get t 8) (get t 9) (get t 24) (get t 25) (get t 26) m K := den_loop_again hf (id := 8) (l := [5, 8, 9, 24, 25, 26]) (by kernel_rfl) (by kernel_rfl) (.inBlock 2 :: K) _
theorem L2_eq (x5 x8 x9 x24 x25 x26 : AV) (m : Mem) (K : List Item) : L2 x5 x8 x9 x24 x25 x26 m K = den prog ann 44 (.code k3 :: .inLoop l2 :: .inBlock 2 :: K) ⟨[(5, x5), (8, x8), (9, x9), (24, x24), (25, x25), (26, x26)], 67, m⟩ := den_flat hf (l := [k3]) (by kernel_rfl) _ _
theorem k3_eq : den prog ann 44 (.code k3 :: K) s = den prog ann 44 (.code r8 :: .code r9 :: .code r10 :: .code i2 :: .code r12 :: .code r13 :: .code i3 :: .code (.exit 2) :: .inBlock 3 :: K) s := den_blk hf (b := blkOf k3) (l := [r8, r9, r10, i2, r12, r13, i3, (.exit 2)]) (by kernel_rfl) (by kernel_rfl) K s
theorem r8_draw : drawOk (fun g => (ann g).pure) (modeOf (ann 44) (idOf r8)) (frzOf (ann 44) (idOf r8)) (opsOf r8) = true := drawOk_of (an := [0, 0, 2, 6, 14, 0, 0, 64, 192, 480, 992, 2046, 4094, 0, 16382, 32767, 65535]) (by kernel_rfl) (by kernel_rfl)
theorem r8_eq : den prog ann 44 (.code r8 :: K) s = mreg prog ann 44 (some [5, 8, 9, 24, 25, 26]) [] (some 17) [] [qC 33 5,qC 34 5,qA 35 nilA 34,qA 36 (fieldA 2) 35,qA 37 (loadF false 1) 36,qC 38 9,qC 39 9,qA 40 lenSl 39,qF 41 fun s => binA prog .sub 3 (s.get 40) (.int .i64 1),qB 42 (idxSl 1) 38 41,qF 43 fun s => loadA false 1 s.m (s.get 42),qB 44 (idxSl 1) 37 43,qA 45 (loadF false 1) 44,qC 46 8,qB 47 (binA prog .add 9) 45 46,⟨some 48, none, .c 0 (fun s => (.fn 71 [] [])) fun s => [(s.get 33), (s.get 47)]⟩,qC 10 48] K s := (den_regD hf r8_draw K s).trans (by kernel_rfl)
theorem r9_eq : den prog ann 44 (.code r9 :: K) s = mreg prog ann 44 none [] none [] [qC 49 9,qC 50 10,⟨some 51, none, .c 0 (fun s => (.fn 75 [] [])) fun s => [(s.get 49), (s.get 50)]⟩,qC 11 51] K s := (den_reg hf _ K s).trans (by kernel_rfl)
theorem r10_eq : den prog ann 44 (.code r10 :: K) s = mreg prog ann 44 none [] none [] [qC 52 11,qF 53 fun s => binA prog .lss 3 (s.get 52) (.int .i64 0)] K s := (den_reg hf _ K s).trans (by kernel_rfl)
theorem i2_eq : den prog ann 44 (.code i2 :: K) s = ifV prog ann 44 53 i2t i2e K s (s.get 53) := den_if hf (by kernel_rfl) K s
theorem i2t_eq : den prog ann 44 (.code i2t :: K) s = den prog ann 44 (.code r11 :: .code (.exit 3) :: K) s := den_flat hf (l := [r11, (.exit 3)]) (by kernel_rfl) K s
theorem r11_eq : den prog ann 44 (.code r11 :: K) s = mreg prog ann 44 none [] none [] [qC 54 9,qC 55 10,qF 56 fun s => bslF 1 (bslA 1 1 [.int .i64 0] [(0, (s.get 55))]),⟨some 57, none, .w false none fun s => appendA 1 8 s.m (s.get 54) (s.get 56)⟩,qC 9 57] K s := (den_reg hf _ K s).trans (by kernel_rfl)
theorem i2e_eq : den prog ann 44 (.code i2e :: K) s = den prog ann 44 (K) s := den_flat hf (l := []) (by kernel_rfl) K s
theorem r12_eq : den prog ann 44 (.code r12 :: K) s = mreg prog ann 44 none [] none [] [qC 58 9,qA 59 lenSl 58,qC 60 11,qB 61 (binA prog .sub 3) 59 60,qC 12 61] K s := (den_reg hf _ K s).trans (by kernel_rfl)
theorem r13_eq : den prog ann 44 (.code r13 :: K) s = mreg prog ann 44 none [] none [] [qC 62 12,qF 63 fun s => binA prog .gtr 3 (s.get 62) (.int .i64 1)] K s := (den_reg hf _ K s).trans (by kernel_rfl)
theorem i3_eq : den prog ann 44 (.code i3 :: K) s = ifV prog ann 44 63 i3t i3e K s (s.get 63) := den_if hf (by kernel_rfl) K s
theorem i3t_eq : den prog ann 44 (.code i3t :: K) s = den prog ann 44 (.code r14 :: .code .ret :: K) s := den_flat hf (l := [r14, .ret]) (by kernel_rfl) K s
theorem r14_eq : den prog ann 44 (.code r14 :: K) s = mreg prog ann 44 none [] none [] [qC 64 8,qC 65 12,qC 2 64,qC 3 65,qF 4 fun s => some (.int .i64 0)] K s := (den_reg hf _ K s).trans (by kernel_rfl)
theorem i3e_eq : den prog ann 44 (.code i3e :: K) s = den prog ann 44 (K) s := den_flat hf (l := []) (by kernel_rfl) K s
theorem r15_eq : den prog ann 44 (.code r15 :: K) s = mreg prog ann 44 (some [5, 24, 25, 26]) [] none [] [qF 66 fun s => binA prog .add 3 (s.get 26) (.int .i64 1),qC 26 66] K s := (den_reg hf _ K s).trans (by kernel_rfl)
theorem r16_eq : den prog ann 44 (.code r16 :: K) s = mreg prog ann 44 (some []) [] none [] [qF 2 fun s => some (.str []),qF 3 fun s => some (.int .i64 0),qF 4 fun s => some (.int .i64 5)] K s := (den_reg hf _ K s).trans (by kernel_rfl)
theorem ret_eq : den prog ann 44 (.code .ret :: K) s = finM true [fun s => some (s.get 2), fun s => some (s.get 3), fun s => some (s.get 4)] s := (den_ret hf K s).trans (by kernel_rfl)
theorem nil_eq (s : St) : den prog ann 44 [] s = finM true [fun s => some (s.get 2), fun s => some (s.get 3), fun s => some (s.get 4)] s := (den_nil hf s).trans (by kernel_rfl)
theorem inBlock_eq (id : Nat) (K : List Item) (s : St) : den prog ann 44 (.inBlock id :: K) s = den prog ann 44 K s := den_inBlock hf id K s
theorem exit_eq (id : Nat) (K : List Item) (s : St) : den prog ann 44 (.code (.exit id) :: K) s = exitV prog ann 44 (exitTo id K) s := den_exitV hf id K s
theorem call_eq (v0 : AV) (m : Mem) (h : closedL [v0] = true) : denC prog ann 44 [v0] m = (den prog ann 44 [.code b] ⟨[(0, v0)], 67, Mem.empty⟩).bind fun r => some (r.1, m) := (denC_pure hf (b := b) (by kernel_rfl) (by kernel_rfl) (by kernel_rfl) h m).trans (by kernel_rfl)
theorem pure_eq : (ann 44).pure = true := by kernel_rfl
attribute [simp] b_eq r0_eq r1_eq r2_eq i0_eq i0t_eq r3_eq i0e_eq r4_eq k0_eq l0_eq r5_eq i1_eq i1t_eq i1e_eq k1_eq r6_eq r7_eq k2_eq l2_eq k3_eq r8_eq r9_eq r10_eq i2_eq i2t_eq r11_eq i2e_eq r12_eq r13_eq i3_eq i3t_eq r14_eq i3e_eq r15_eq r16_eq ret_eq nil_eq inBlock_eq exit_eq pure_eq
end
end brand_Groups
namespace r07_Monoid_Period
noncomputable section
variable (K : List Item) (s : St)
def b : Code := (Try.f53.body).getD .skip
theorem hf : prog.funcs[53]? = some Try.f53 := by kernel_rfl
def r0 := findReg b 0
def r1 := findReg b 1
def r2 := findReg b 2
def k0 := findBlk b 0
def l0 := loopOf k0
def L0 (x1 x2 x5 x6 : AV) (m : Mem) (K : List Item) : Option Res := den prog ann 53 (.code l0 :: .inLoop l0 :: .inBlock 0 :: K) ⟨[(1, x1), (2, x2), (5, x5), (6, x6)], 35, m⟩
def r3 := findReg b 3
def i0 := findCond b 0
def i0t := thenOf i0
def i0e := elseOf i0
def k1 := findBlk b 1
def r5 := findReg b 5
def r4 := findReg b 4
def r6 := findReg b 6
def k2 := findBlk b 2
def l2 := loopOf k2
def L2 (x1 x2 x5 x7 x8 : AV) (m : Mem) (K : List Item) : Option Res := den prog ann 53 (.code l2 :: .inLoop l2 :: .inBlock 2 :: K) ⟨[(1, x1), (2, x2), (5, x5), (7, x7), (8, x8)], 35, m⟩
def r7 := findReg b 7
def i1 := findCond b 1
def i1t := thenOf i1
def i1e := elseOf i1
def k3 := findBlk b 3
def r8 := findReg b 8
def r9 := findReg b 9
theorem b_eq : den prog ann 53 (.code b :: K) s = den prog ann 53 (.code r0 :: .code r1 :: .code r2 :: .code k0 :: .code r6 :: .code k2 :: .code r9 :: .code .ret :: K) s := den_flat hf (l := [r0, r1, r2, k0, r6, k2, r9, .ret]) (by kernel_rfl) K s
theorem r0_eq : den prog ann 53 (.code r0 :: K) s = mreg prog ann 53 none [] none [] [qA 2 frozenPtr 0,qF 4 fun s => some (.int .i64 0)] K s := (den_reg hf _ K s).trans (by kernel_rfl)
theorem r1_eq : den prog ann 53 (.code r1 :: K) s = mreg prog ann 53 none [] none [] [qC 9 1,qC 5 9] K s := (den_reg hf _ K s).trans (by kernel_rfl)
theorem r2_eq : den prog ann 53 (.code r2 :: K) s = mreg prog ann 53 none [] none [] [qF 6 fun s => some (.int .i64 0)] K s := (den_reg hf _ K s).trans (by kernel_rfl)
theorem k0_eq (K : List Item) (t : List (Nat × AV)) (m : Mem) : den prog ann 53 (.code k0 :: K) ⟨t, 35, m⟩ = L0 (get t 1) (get t 2) (get t 5) (get t 6) m K := den_loop_enter hf (b := l0) (id := 3) (l := [1, 2, 5, 6]) (by kernel_rfl) (by kernel_rfl) (by kernel_rfl) K _
theorem l0_eq (K : List Item) (t : List (Nat × AV)) (m : Mem) : den prog ann 53 (.inLoop l0 :: .inBlock 0 :: K) ⟨t, 35, m⟩ = L0 (get t 1) (get t 2) (get t 5) (get t 6) m K := den_loop_again hf (id := 3) (l := [1, 2, 5, 6]) (by kernel_rfl) (by kernel_rfl) (.inBlock 0 :: K) _
theorem L0_eq (x1 x2 x5 x6 : AV) (m : Mem) (K : List Item) : L0 x1 x2 x5 x6 m K = den prog ann 53 (.code r3 :: .code i0 :: .code k1 :: .code r4 :: .inLoop l0 :: .inBlock 0 :: K) ⟨[(1, x1), (2, x2), (5, x5), (6, x6)], 35, m⟩ := den_flat hf (l := [r3, i0, k1, r4]) (by kernel_rfl) _ _
theorem r3_eq : den prog ann 53 (.code r3 :: K) s = mreg prog ann 53 (some [1, 2, 5, 6]) [] none [] [qC 10 6,qA 11 (fieldA 0) 2,qA 12 (loadF false 1) 11,qA 13 lenSl 12,qB 14 (binA prog .lss 3) 10 13] K s := (den_reg hf _ K s).trans (by kernel_rfl)
theorem i0_eq : den prog ann 53 (.code i0 :: K) s = ifV prog ann 53 14 i0t i0e K s (s.get 14) := den_if hf (by kernel_rfl) K s
theorem i0t_eq : den prog ann 53 (.code i0t :: K) s = den prog ann 53 (K) s := den_flat hf (l := []) (by kernel_rfl) K s
theorem i0e_eq : den prog ann 53 (.code i0e :: K) s = den prog ann 53 (.code (.exit 0) :: K) s := den_flat hf (l := [(.exit 0)]) (by kernel_rfl) K s
theorem k1_eq : den prog ann 53 (.code k1 :: K) s = den prog ann 53 (.code r5 :: .inBlock 1 :: K) s := den_blk hf (b := blkOf k1) (l := [r5]) (by kernel_rfl) (by kernel_rfl) K s
theorem r5_eq : den prog ann 53 (.code r5 :: K) s = mreg prog ann 53 none [] none [] [qA 17 (loadF true 2) 2,qC 18 5,qC 19 1,⟨some 20, none, .c 0 (fun s => (.fn 74 [] [])) fun s => [(s.get 17), (s.get 18), (s.get 19)]⟩,qC 5 20] K s := (den_reg hf _ K s).trans (by kernel_rfl)
theorem r4_eq : den prog ann 53 (.code r4 :: K) s = mreg prog ann 53 (some [1, 2, 5, 6]) [] none [] [qC 15 6,qF 16 fun s => binA prog .add 3 (s.get 15) (.int .i64 1),qC 6 16] K s := (den_reg hf _ K s).trans (by kernel_rfl)
theorem r6_eq : den prog ann 53 (.code r6 :: K) s = mreg prog ann 53 (some [1, 2, 5]) [] none [] [qA 21 (loadF true 2) 2,qC 22 5,qC 23 1,⟨some 24, none, .c 0 (fun s => (.fn 74 [] [])) fun s => [(s.get 21), (s.get 22), (s.get 23)]⟩,qC 7 24,qF 8 fun s => some (.int .i64 1)] K s := (den_reg hf _ K s).trans (by kernel_rfl)
theorem k2_eq (K : List Item) (t : List (Nat × AV)) (m : Mem) : den prog ann 53 (.code k2 :: K) ⟨t, 35, m⟩ = L2 (get t 1) (get t 2) (get t 5) (get t 7) (get t 8) m K := den_loop_enter hf (b := l2) (id := 7) (l := [1, 2, 5, 7, 8]) (by kernel_rfl) (by kernel_rfl) (by kernel_rfl) K _
theorem l2_eq (K : List Item) (t : List (Nat × AV)) (m : Mem) : den prog ann 53 (.inLoop l2 :: .inBlock 2 :: K) ⟨t, 35, m⟩ = L2 (get t 1) (get t 2) (get t 5) (get t 7) (get t 8) m K := den_loop_again hf (id := 7) (l := [1, 2, 5, 7, 8]) (by kernel_rfl) (by kernel_rfl) (.inBlock 2 :: K) _
theorem L2_eq (x1 x2 x5 x7 x8 : AV) (m : Mem) (K : List Item) : L2 x1 x2 x5 x7 x8 m K = den prog ann 53 (.code r7 :: .code i1 :: .code k3 :: .inLoop l2 :: .inBlock 2 :: K) ⟨[(1, x1), (2, x2), (5, x5), (7, x7), (8, x8)], 35, m⟩ := den_flat hf (l := [r7, i1, k3]) (by kernel_rfl) _ _
theorem r7_eq : den prog ann 53 (.code r7 :: K) s = mreg prog ann 53 (some [1, 2, 5, 7, 8]) [] none [] [qC 25 7,qC 26 5,qB 27 (binA prog .neq 3) 25 26] K s := (den_reg hf _ K s).trans (by kernel_rfl)
theorem i1_eq : den prog ann 53 (.code i1 :: K) s = ifV prog ann 53 27 i1t i1e K s (s.get 27) := den_if hf (by kernel_rfl) K s
theorem i1t_eq : den prog ann 53 (.code i1t :: K) s = den prog ann 53 (K) s := den_flat hf (l := []) (by kernel_rfl) K s
theorem i1e_eq : den prog ann 53 (.code i1e :: K) s = den prog ann 53 (.code (.exit 2) :: K) s := den_flat hf (l := [(.exit 2)]) (by kernel_rfl) K s
theorem k3_eq : den prog ann 53 (.code k3 :: K) s = den prog ann 53 (.code r8 :: .inBlock 3 :: K) s := den_blk hf (b := blkOf k3) (l := [r8]) (by kernel_rfl) (by kernel_rfl) K s
theorem r8_eq : den prog ann 53 (.code r8 :: K) s = mreg prog ann 53 none [] none [] [qA 28 (loadF true 2) 2,qC 29 7,qC 30 1,⟨some 31, none, .c 0 (fun s => (.fn 74 [] [])) fun s => [(s.get 28), (s.get 29), (s.get 30)]⟩,qC 32 8,qF 33 fun s => binA prog .add 3 (s.get 32) (.int .i64 1),qC 7 31,qC 8 33] K s := (den_reg hf _ K s).trans (by kernel_rfl)
theorem r9_eq : den prog ann 53 (.code r9 :: K) s = mreg prog ann 53 (some [8]) [] none [] [qC 34 8,qC 4 34] K s := (den_reg hf _ K s).trans (by kernel_rfl)
theorem ret_eq : den prog ann 53 (.code .ret :: K) s = finM true [fun s => some (s.get 4)] s := (den_ret hf K s).trans (by kernel_rfl)
theorem nil_eq (s : St) : den prog ann 53 [] s = finM true [fun s => some (s.get 4)] s := (den_nil hf s).trans (by kernel_rfl)
theorem inBlock_eq (id : Nat) (K : List Item) (s : St) : den prog ann 53 (.inBlock id :: K) s = den prog ann 53 K s := den_inBlock hf id K s
theorem exit_eq (id : Nat) (K : List Item) (s : St) : den prog ann 53 (.code (.exit id) :: K) s = exitV prog ann 53 (exitTo id K) s := den_exitV hf id K s
theorem call_eq (v0 v1 : AV) (m : Mem) (h : closedL [v0, v1] = true) : denC prog ann 53 [v0, v1] m = (den prog ann 53 [.code b] ⟨[(0, v0), (1, v1)], 35, Mem.empty⟩).bind fun r => some (r.1, m) := (denC_pure hf (b := b) (by kernel_rfl) (by kernel_rfl) (by kernel_rfl) h m).trans (by kernel_rfl)
theorem pure_eq : (ann 53).pure = true := by kernel_rfl
attribute [simp] b_eq r0_eq r1_eq r2_eq k0_eq l0_eq r3_eq i0_eq i0t_eq i0e_eq k1_eq r5_eq r4_eq r6_eq k2_eq l2_eq r7_eq i1_eq i1t_eq i1e_eq k3_eq r8_eq r9_eq ret_eq nil_eq inBlock_eq exit_eq pure_eq
end
end r07_Monoid_Period
namespace slices_Index_int
noncomputable section
variable (K : List Item) (s : St)
def b : Code := (Try.f75.body).getD .skip
theorem hf : prog.funcs[75]? = some Try.f75 := by kernel_rfl
def r0 := findReg b 0
def r1 := findReg b 1
def k0 := findBlk b 0
def l0 := loopOf k0
def L0 (x0 x1 x7 x8 : AV) (m : Mem) (K : List Item) : Option Res := den prog ann 75 (.code l0 :: .inLoop l0 :: .inBlock 0 :: K) ⟨[(0, x0), (1, x1), (7, x7), (8, x8)], 19, m⟩
def r2 := findReg b 2
def i0 := findCond b 0
def i0t := thenOf i0
def i0e := elseOf i0
def k1 := findBlk b 1
def r3 := findReg b 3
def r4 := findReg b 4
def i1 := findCond b 1
def i1t := thenOf i1
def i1e := elseOf i1
def r5 := findReg b 5
def r6 := findReg b 6
def r7 := findReg b 7
theorem b_eq : den prog ann 75 (.code b :: K) s = den prog ann 75 (.code r0 :: .code r1 :: .code k0 :: .code r7 :: .code .ret :: K) s := den_flat hf (l := [r0, r1, k0, r7, .ret]) (by kernel_rfl) K s
theorem r0_eq : den prog ann 75 (.code r0 :: K) s = mreg prog ann 75 none [] none [] [qF 4 fun s => some (.int .i64 0)] K s := (den_reg hf _ K s).trans (by kernel_rfl)
theorem r1_eq : den prog ann 75 (.code r1 :: K) s = mreg prog ann 75 none [] none [] [qC 6 0,qA 7 lenSl 6,qF 8 fun s => some (.int .i64 0)] K s := (den_reg hf _ K s).trans (by kernel_rfl)
theorem k0_eq (K : List Item) (t : List (Nat × AV)) (m : Mem) : den prog ann 75 (.code k0 :: K) ⟨t, 19, m⟩ = L0 (get t 0) (get t 1) (get t 7) (get t 8) m K := den_loop_enter hf (b := l0) (id := 2) (l := [0, 1, 7, 8]) (by kernel_rfl) (by kernel_rfl) (by kernel_rfl) K _
theorem l0_eq (K : List Item) (t : List (Nat × AV)) (m : Mem) : den prog ann 75 (.inLoop l0 :: .inBlock 0 :: K) ⟨t, 19, m⟩ = L0 (get t 0) (get t 1) (get t 7) (get t 8) m K := den_loop_again hf (id := 2) (l := [0, 1, 7, 8]) (by kernel_rfl) (by kernel_rfl) (.inBlock 0 :: K) _
theorem L0_eq (x0 x1 x7 x8 : AV) (m : Mem) (K : List Item) : L0 x0 x1 x7 x8 m K = den prog ann 75 (.code r2 :: .code i0 :: .code k1 :: .code r6 :: .inLoop l0 :: .inBlock 0 :: K) ⟨[(0, x0), (1, x1), (7, x7), (8, x8)], 19, m⟩ := den_flat hf (l := [r2, i0, k1, r6]) (by kernel_rfl) _ _
theorem r2_eq : den prog ann 75 (.code r2 :: K) s = mreg prog ann 75 (some [0, 1, 7, 8]) [] none [] [qB 9 (binA prog .lss 3) 8 7] K s := (den_reg hf _ K s).trans (by kernel_rfl)
theorem i0_eq : den prog ann 75 (.code i0 :: K) s = ifV prog ann 75 9 i0t i0e K s (s.get 9) := den_if hf (by kernel_rfl) K s
theorem i0t_eq : den prog ann 75 (.code i0t :: K) s = den prog ann 75 (K) s := den_flat hf (l := []) (by kernel_rfl) K s
theorem i0e_eq : den prog ann 75 (.code i0e :: K) s = den prog ann 75 (.code (.exit 0) :: K) s := den_flat hf (l := [(.exit 0)]) (by kernel_rfl) K s
theorem k1_eq : den prog ann 75 (.code k1 :: K) s = den prog ann 75 (.code r3 :: .code r4 :: .code i1 :: .inBlock 1 :: K) s := den_blk hf (b := blkOf k1) (l := [r3, r4, i1]) (by kernel_rfl) (by kernel_rfl) K s
theorem r3_eq : den prog ann 75 (.code r3 :: K) s = mreg prog ann 75 none [] none [] [qC 10 8,qC 5 10] K s := (den_reg hf _ K s).trans (by kernel_rfl)
theorem r4_eq : den prog ann 75 (.code r4 :: K) s = mreg prog ann 75 none [] none [] [qC 11 1,qC 12 0,qC 13 5,qB 14 (idxSl 1) 12 13,qA 15 (loadF false 1) 14,qB 16 (binA prog .eql 3) 11 15] K s := (den_reg hf _ K s).trans (by kernel_rfl)
theorem i1_eq : den prog ann 75 (.code i1 :: K) s = ifV prog ann 75 16 i1t i1e K s (s.get 16) := den_if hf (by kernel_rfl) K s
theorem i1t_eq : den prog ann 75 (.code i1t :: K) s = den prog ann 75 (.code r5 :: .code .ret :: K) s := den_flat hf (l := [r5, .ret]) (by kernel_rfl) K s
theorem r5_eq : den prog ann 75 (.code r5 :: K) s = mreg prog ann 75 none [] none [] [qC 17 5,qC 4 17] K s := (den_reg hf _ K s).trans (by kernel_rfl)
theorem i1e_eq : den prog ann 75 (.code i1e :: K) s = den prog ann 75 (K) s := den_flat hf (l := []) (by kernel_rfl) K s
theorem r6_eq : den prog ann 75 (.code r6 :: K) s = mreg prog ann 75 (some [0, 1, 7, 8]) [] none [] [qF 18 fun s => binA prog .add 3 (s.get 8) (.int .i64 1),qC 8 18] K s := (den_reg hf _ K s).trans (by kernel_rfl)
theorem r7_eq : den prog ann 75 (.code r7 :: K) s = mreg prog ann 75 (some []) [] none [] [qF 4 fun s => some (.int .i64 (-1))] K s := (den_reg hf _ K s).trans (by kernel_rfl)
theorem ret_eq : den prog ann 75 (.code .ret :: K) s = finM true [fun s => some (s.get 4)] s := (den_ret hf K s).trans (by kernel_rfl)
theorem nil_eq (s : St) : den prog ann 75 [] s = finM true [fun s => some (s.get 4)] s := (den_nil hf s).trans (by kernel_rfl)
theorem inBlock_eq (id : Nat) (K : List Item) (s : St) : den prog ann 75 (.inBlock id :: K) s = den prog ann 75 K s := den_inBlock hf id K s
theorem exit_eq (id : Nat) (K : List Item) (s : St) : den prog ann 75 (.code (.exit id) :: K) s = exitV prog ann 75 (exitTo id K) s := den_exitV hf id K s
theorem call_eq (v0 v1 : AV) (m : Mem) (h : closedL [v0, v1] = true) : denC prog ann 75 [v0, v1] m = (den prog ann 75 [.code b] ⟨[(0, v0), (1, v1)], 19, Mem.empty⟩).bind fun r => some (r.1, m) := (denC_pure hf (b := b) (by kernel_rfl) (by kernel_rfl) (by kernel_rfl) h m).trans (by kernel_rfl)
theorem pure_eq : (ann 75).pure = true := by kernel_rfl
attribute [simp] b_eq r0_eq r1_eq k0_eq l0_eq r2_eq i0_eq i0t_eq i0e_eq k1_eq r3_eq r4_eq i1_eq i1t_eq r5_eq i1e_eq r6_eq r7_eq ret_eq nil_eq inBlock_eq exit_eq pure_eq
end
end slices_Index_int
end Go.Proofs.Ythnpflkpjimkfaa

/-
  GROUPS: what the program returns. Conditions: none.
-/
namespace Go.Proofs.Ythnpflkpjimkfaa
open Go.AM
open Go.Proofs.Try (prog)
set_option linter.all false
set_option maxRecDepth 100000
set_option maxHeartbeats 8000000
def idxN (l : List Nat) (x : Nat) : Int := if x ∈ l then ((l.idxOf x : Nat) : Int) else -1
theorem index_loop {ex : Bool} {l : List Nat} {x : Nat} (hl : l.length ≤ 1000) : ∀ (c j : Nat) (m : Mem), j + c = l.length → (∀ i, i < j → l[i]? ≠ some x) →
    slices_Index_int.L0 (.fsl ex l.length (natL l)) (.int .i64 (x : Nat)) (.int .i64 l.length) (.int .i64 j) m [.code slices_Index_int.r7, .code .ret] = some (.int .i64 (idxN l x), Mem.empty) := by
  intro c
  induction c with
  | zero =>
    intro j m h1 h0
    have e : j = l.length := by omega
    subst e
    have : x ∉ l := by
      intro hs
      obtain ⟨i, hi⟩ := List.getElem?_of_mem hs
      exact h0 i (List.getElem?_eq_some_iff.1 hi).1 hi
    rw [idxN, if_neg this, slices_Index_int.L0_eq]
    simp
    done
  | succ c ih =>
    intro j m h1 h0
    have hj : j < l.length := by omega
    have hwj : IntKind.wrap .i64 ((j : Int) + 1) = (j : Int) + 1 := wrap_id (by omega) (by omega)
    have hx := List.getElem?_eq_getElem hj
    have hd := natL_head hj
    generalize l[j] = y at hx hd
    by_cases q : y = x
    · subst q
      have hm := List.mem_of_getElem? hx
      have hi : l.idxOf y = j := by
        have h2 : l.idxOf y < l.length := List.idxOf_lt_length_iff.2 hm
        have h3 : l[l.idxOf y]? = some y := by rw [List.getElem?_eq_getElem h2]; simp
        rcases Nat.lt_trichotomy (l.idxOf y) j with c | c | c
        · exact absurd h3 (h0 _ c)
        · exact c
        · exfalso
          have e := (List.getElem?_eq_some_iff.1 hx).2
          have := List.not_of_lt_findIdx (xs := l) (p := (· == y)) (i := j) (by simpa [List.idxOf] using c)
          simp [e] at this
      rw [idxN, if_pos hm, hi, slices_Index_int.L0_eq]
      simp [hj, hd, -List.head?_drop]
      done
    · have st := fun m => ih (j + 1) m (by omega) (fun i hi => by
        by_cases e : i = j
        · subst e; rw [hx]; intro e; exact q (Option.some.inj e)
        · exact h0 i (by omega))
      simp only [Int.natCast_add, Int.cast_ofNat_Int] at st
      have q' : ¬ ((x : Nat) : Int) = (y : Nat) := by omega
      rw [slices_Index_int.L0_eq]
      simp [hj, hd, q', hwj, st, -List.head?_drop]
      done
theorem index_spec {ex : Bool} {l : List Nat} {x : Nat} (hl : l.length ≤ 1000) (m : Mem) :
    denC prog ann 75 [.fsl ex l.length (natL l), .int .i64 (x : Nat)] m = some (.int .i64 (idxN l x), m) := by
  have lp := fun m => index_loop (ex := ex) (x := x) hl l.length 0 m (by omega) (by omega)
  simp only [Int.ofNat_zero, Int.cast_ofNat_Int] at lp
  rw [slices_Index_int.call_eq _ _ _ (by simp)]
  simp [lp]
  done
def pw (rows : List (List Int)) (S : SM) (i : Nat) : Nat → Nat
  | 0 => i
  | t + 1 => pr rows S (pw rows S i t) i
theorem pw_lt {rows : List (List Int)} {good : List Bool} {k : Nat} (v : VB rows good k) {S : SM} (W : MW rows k S) {i : Nat} (hi : i < S.1.length) : ∀ t, pw rows S i t < S.1.length
  | 0 => hi
  | t + 1 => pr_lt v W (pw_lt v W hi t) hi
theorem pw_H (rows : List (List Int)) (S : SM) (i : Nat) : ∀ a b, pw rows S i a = pw rows S i b → pw rows S i (a + 1) = pw rows S i (b + 1) := fun a b h => by rw [pw, pw, h]
open Classical in
noncomputable def perd (rows : List (List Int)) (S : SM) (i : Nat) : Nat := if h : ∃ p, IsPer (pw rows S i) S.1.length p then Classical.choose h else 1
theorem perd_eq {rows : List (List Int)} {S : SM} {i p : Nat} (h : IsPer (pw rows S i) S.1.length p) : perd rows S i = p := by
  have e : ∃ p, IsPer (pw rows S i) S.1.length p := ⟨p, h⟩
  rw [perd, dif_pos e]
  exact (Classical.choose_spec e).uniq h
def pwL (rows : List (List Int)) (S : SM) (i c : Nat) : List Nat := (List.range c).map (pw rows S i)
noncomputable def KG0 : List Item := [.code brand_Groups.r16, .code .ret]
noncomputable def KG2 : List Item := .inBlock 1 :: .code brand_Groups.r15 :: .inLoop brand_Groups.l0 :: .inBlock 0 :: KG0
theorem gr_in {nv gv : AV} {ps : List AV} {rows : List (List Int)} {good : List Bool} {k : Nat} (hn : IsRows nv ps rows) (hg : IsB gv good) (v : VB rows good k) {S : SM} (W : MW rows k S) {i : Nat} (hi : i < S.1.length) {R : Nat} {r : Option Res}
    (h1' : 1 < perd rows S i → r = some (.tup [.str (wrd S i), .int .i64 (perd rows S i : Nat), .int .i64 0], Mem.empty))
    (h2' : perd rows S i = 1 → ∀ h' nx', brand_Groups.L0 (monV nv gv S) (wdsV S) (.int .i64 S.2.length) (.int .i64 ((i : Int) + 1)) ⟨h', nx'⟩ KG0 = r) :
    ∀ (f c : Nat) (h : Nat → Option AObj) (nx0 : Nat), S.1.length < f + c → 1 ≤ c → c ≤ S.1.length → R < nx0 → (∀ a b, a < b → b < c → pw rows S i a ≠ pw rows S i b) → h R = some (.cells (natL (pwL rows S i c))) →
    brand_Groups.L2 (monV nv gv S) (.str (wrd S i)) (.sl R 1 0 c c) (wdsV S) (.int .i64 S.2.length) (.int .i64 i) ⟨h, nx0⟩ KG2 = r := by
  have hle := W.ok.le
  have hlen := W.ok.len
  intro f
  induction f with
  | zero => intro c h nx0 e1 e2 e3; omega
  | succ f ih =>
    intro c h nx0 e1 e2 e3 hR hd h0
    have hiw : IntKind.wrap .i64 ((i : Int) + 1) = (i : Int) + 1 := wrap_id (by omega) (by omega)
    have pl : (pwL rows S i c).length = c := by simp [pwL]
    have hcw : IntKind.wrap .i64 ((c : Int) - 1) = ((c - 1 : Nat) : Int) := by rw [wrap_id (by omega) (by omega)]; omega
    have hc1 : c - 1 < c := by omega
    have hlp : (natL (pwL rows S i c))[c - 1]? = some (.int .i64 (pw rows S i (c - 1) : Nat)) := by
      simp [natL, natV, pwL, hc1]
    have hlq := (List.getElem?_eq_some_iff.1 hlp).2
    have hlt := pw_lt v W hi (c - 1)
    obtain ⟨w1, w2, w3, w4⟩ := W.wok hlt
    obtain ⟨u1, u2, u3, u4⟩ := W.wok hi
    have hdw : ((S.2.map AV.str).drop (pw rows S i (c - 1))).head? = some (.str (wrd S (pw rows S i (c - 1)))) := by rw [List.head?_drop, List.getElem?_map, w1]; rfl
    have hlt2 : pw rows S i (c - 1) < S.2.length := by omega
    have hnm := fun m => number_spec hn hg v W (w := wrd S (pw rows S i (c - 1)) ++ wrd S i) (okW_app w2 u2) (by simp; omega) m
    have hnx : numM rows S (wrd S (pw rows S i (c - 1)) ++ wrd S i) = pw rows S i c := by
      conv => rhs; rw [show c = (c - 1) + 1 by omega, pw, pr]
    rw [hnx] at hnm
    have hll : (wrd S (pw rows S i (c - 1))).length + (wrd S i).length ≤ 4611686018427387904 := by omega
    have hix := fun m => index_spec (ex := false) (l := pwL rows S i c) (x := pw rows S i c) (by omega) m
    rw [pl] at hix
    have tk : (natL (pwL rows S i c)).take c = natL (pwL rows S i c) := List.take_of_length_le (by simp [pl])
    have hmp : ∀ d, mapO (AM.deep h (d + 1)) (natL (pwL rows S i c)) = some (natL (pwL rows S i c)) := fun d => mapO_same _ (fun x hx => by
      simp only [natL, List.mem_map] at hx
      obtain ⟨b, _, rfl⟩ := hx
      rfl)
    have hnl : (natL (pwL rows S i c)).length = c := by simp [pl]
    have hmc : (monV nv gv S).closed = true := rfl
    by_cases q : pw rows S i c ∈ pwL rows S i c
    · -- it was there before
      have hid : idxN (pwL rows S i c) (pw rows S i c) = (((pwL rows S i c).idxOf (pw rows S i c) : Nat) : Int) := by rw [idxN, if_pos q]
      have hil := List.idxOf_lt_length_iff.2 q
      rw [pl] at hil
      have hat : pw rows S i c = pw rows S i ((pwL rows S i c).idxOf (pw rows S i c)) := by
        have h3 : (pwL rows S i c)[(pwL rows S i c).idxOf (pw rows S i c)]? = some (pw rows S i c) := by rw [List.getElem?_eq_getElem (by omega)]; simp
        generalize (pwL rows S i c).idxOf (pw rows S i c) = at' at *
        simp [pwL, hil] at h3
        exact h3.symm
      rw [hid] at hix
      generalize (pwL rows S i c).idxOf (pw rows S i c) = at' at *
      have hp := per_first (pw_H rows S i) (N := S.1.length) hil hat hd (by omega)
      have hpe := perd_eq hp
      have hsub : IntKind.wrap .i64 ((c : Int) - (at' : Int)) = ((c - at' : Nat) : Int) := by rw [wrap_id (by omega) (by omega)]; omega
      have hneg : ¬ ((at' : Nat) : Int) < 0 := by omega
      rw [brand_Groups.L2_eq]
      simp only [wdsV, monV] at h2' hnm hmc ⊢
      by_cases g : 1 < c - at'
      · have g' : (1 : Int) < ((c - at' : Nat) : Int) := by omega
        rw [hpe] at h1'
        rw [h1' g]
        simp [e2, hc1, AV.flat, AV.flat1, h0, hlq, hnl, hcw, hlt2, hdw, hll, hmc, hnm, tk, hmp, hix, hneg, hsub, g', -List.head?_drop, -List.map_drop]
        done
      · have g' : ¬ (1 : Int) < ((c - at' : Nat) : Int) := by omega
        have h2 := h2' (by omega)
        simp [e2, hc1, AV.flat, AV.flat1, h0, hlq, hnl, hcw, hlt2, hdw, hll, hmc, hnm, tk, hmp, hix, hneg, hsub, g', KG2, hiw, h2, -List.head?_drop, -List.map_drop]
        done
    · have hid : idxN (pwL rows S i c) (pw rows S i c) = -1 := by rw [idxN, if_neg q]
      rw [hid] at hix
      have hd' : ∀ a b, a < b → b < c + 1 → pw rows S i a ≠ pw rows S i b := fun a b ab hb => by
        by_cases e : b = c
        · subst e
          intro e
          exact q (e ▸ List.mem_map.2 ⟨a, by simpa using ab, rfl⟩)
        · exact hd a b ab (by omega)
      have hcN := rep_few (pw_lt v W hi) hd'
      have he : natL (pwL rows S i c) ++ [.int .i64 (pw rows S i c : Nat)] = natL (pwL rows S i (c + 1)) := by simp [natL, natV, pwL, List.range_succ]
      have hnl1 : (natL (pwL rows S i (c + 1))).length = c + 1 := by simp [pwL]
      have st := ih (c + 1) (upd h R (some (.cells (natL (pwL rows S i (c + 1)))))) (nx0 + 17) (by omega) (by omega) hcN (by omega) hd' (by simp)
      rw [brand_Groups.L2_eq]
      simp only [wdsV, monV] at st hnm hmc ⊢
      simp [e2, hc1, AV.flat, AV.flat1, h0, hlq, hnl, hcw, hlt2, hdw, hll, hmc, hnm, tk, hmp, hix, he, hnl1, show c ≤ 4611686018427387903 by omega, show (c + 1) * 8 ≤ 70368744177664 by omega, st, -List.head?_drop, -List.map_drop]
      done
noncomputable def grpV (rows : List (List Int)) (S : SM) (c i : Nat) : AV := match (List.range' i c).find? (fun i => decide (1 < perd rows S i)) with
  | some i => .tup [.str (wrd S i), .int .i64 (perd rows S i : Nat), .int .i64 0]
  | none => .tup [.str [], .int .i64 0, .int .i64 5]
theorem grpV_succ (rows : List (List Int)) (S : SM) (c i : Nat) : grpV rows S (c + 1) i = if 1 < perd rows S i then .tup [.str (wrd S i), .int .i64 (perd rows S i : Nat), .int .i64 0] else grpV rows S c (i + 1) := by
  rw [grpV, List.range'_succ, List.find?_cons]
  by_cases q : 1 < perd rows S i
  · simp [q]
  · simp [q, grpV]
theorem per_ex (f : Nat → Nat) (N : Nat) (H : ∀ a b, f a = f b → f (a + 1) = f (b + 1)) (hb : ∀ t, f t < N) : ∃ p, IsPer f N p := by
  have key : ∀ (j c : Nat), N < j + c → c ≤ N → (∀ a b, a < b → b < c → f a ≠ f b) → ∃ p, IsPer f N p := by
    intro j
    induction j with
    | zero => intro c h1 h2; omega
    | succ j ih =>
      intro c h1 h2 hd
      by_cases q : ∃ a, a < c ∧ f c = f a
      · obtain ⟨a, ha, e⟩ := q
        exact ⟨_, per_first H ha e hd (by omega)⟩
      · have hd' : ∀ a b, a < b → b < c + 1 → f a ≠ f b := fun a b ab hb e => by
          by_cases g : b = c
          · subst g; exact q ⟨a, ab, e.symm⟩
          · exact hd a b ab (by omega) e
        exact ih (c + 1) (by omega) (rep_few hb hd') hd'
  exact key (N + 1) 0 (by omega) (by omega) (by omega)
theorem perd_is {rows : List (List Int)} {good : List Bool} {k : Nat} (v : VB rows good k) {S : SM} (W : MW rows k S) {i : Nat} (hi : i < S.1.length) : IsPer (pw rows S i) S.1.length (perd rows S i) := by
  obtain ⟨p, hp⟩ := per_ex (pw rows S i) S.1.length (pw_H rows S i) (pw_lt v W hi)
  rw [perd_eq hp]; exact hp
theorem gr_out {nv gv : AV} {ps : List AV} {rows : List (List Int)} {good : List Bool} {k : Nat} (hn : IsRows nv ps rows) (hg : IsB gv good) (v : VB rows good k) {S : SM} (W : MW rows k S) :
    ∀ (c i : Nat) (h : Nat → Option AObj) (nx0 : Nat), i + c = S.1.length →
    brand_Groups.L0 (monV nv gv S) (wdsV S) (.int .i64 S.2.length) (.int .i64 i) ⟨h, nx0⟩ KG0 = some (grpV rows S c i, Mem.empty) := by
  intro c
  have hle := W.ok.le
  have hlen := W.ok.len
  induction c with
  | zero =>
    intro i h nx0 h1
    have e : i = S.2.length := by omega
    subst e
    rw [brand_Groups.L0_eq]
    simp [KG0, grpV]
    done
  | succ c ih =>
    intro i h nx0 h1
    have hi : i < S.1.length := by omega
    have hi2 : i < S.2.length := by omega
    obtain ⟨u1, u2, u3, u4⟩ := W.wok hi
    have hdw : ((S.2.map AV.str).drop i).head? = some (.str (wrd S i)) := by rw [List.head?_drop, List.getElem?_map, u1]; rfl
    have hp := perd_is v W hi
    have h1p := hp.ps
    have st := gr_in hn hg v W hi (R := nx0) (r := some (grpV rows S (c + 1) i, Mem.empty)) (fun q => by rw [grpV_succ, if_pos q]) (fun q h' nx' => by
      have := ih (i + 1) h' nx' (by omega)
      rw [grpV_succ, if_neg (by omega)]
      simpa using this) (S.1.length) 1 (upd h nx0 (some (.cells [.int .i64 i]))) (nx0 + 1) (by omega) (by omega) (by omega) (by omega) (by omega) (by simp [natL, natV, pwL, pw])
    simp only [KG2] at st
    rw [brand_Groups.L0_eq]
    simp only [wdsV, monV] at st ⊢
    simp [hi2, hdw, -List.head?_drop, -List.map_drop]
    exact st
theorem groups_spec {nv gv : AV} {ps : List AV} {rows : List (List Int)} {good : List Bool} (hn : IsRows nv ps rows) (hg : IsB gv good) (hl : rows.length ≤ 1000) (hgl : good.length ≤ 1000) (hr : ∀ i, i < rows.length → (cth rows i).length ≤ 1000) (m : Mem) :
    denC prog ann 44 [.agg [nv, gv]] m = some (if validB rows good = true then (match madeB rows good (cth rows 0).length with | some S => grpV (rowsM rows good (cth rows 0).length) S S.1.length 0 | none => .tup [.str [], .int .i64 0, .int .i64 7]) else .tup [.str [], .int .i64 0, .int .i64 1], m) := by
  have h1 := fun m => made_spec hn hg hl hgl hr m
  rw [brand_Groups.call_eq _ _ (by simp [hn.closed, hg.closed])]
  cases c0 : validB rows good with
  | false =>
    rw [c0] at h1
    simp [hn.one, hg.one, hn.closed, hg.closed, h1]
    done
  | true =>
    rw [c0, if_pos rfl] at h1
    have v := VB.of c0
    cases e : madeB rows good (cth rows 0).length with
    | none =>
      rw [e] at h1
      simp only [mdR] at h1
      simp [hn.one, hg.one, hn.closed, hg.closed, h1]
      done
    | some S =>
      have W := MW_of v e
      have vm := VB_M v
      rw [e] at h1
      simp only [mdR] at h1
      have lp := fun h nx0 => gr_out (isRows_M rows good (cth rows 0).length) (isB_M rows good (cth rows 0).length) vm W S.1.length 0 h nx0 (by omega)
      simp only [Int.ofNat_zero, Int.cast_ofNat_Int, KG0] at lp
      simp only [monV, wdsV] at h1 lp
      simp [hn.one, hg.one, hn.closed, hg.closed, h1, lp]
      done
end Go.Proofs.Ythnpflkpjimkfaa

/-
  PERIODS: the specification's; SIMPLE: what the program returns. Conditions: none.
-/
namespace Go.Proofs.Ythnpflkpjimkfaa
open Go.AM
open Go.Proofs.Try (prog)
set_option linter.all false
set_option maxRecDepth 100000
set_option maxHeartbeats 8000000
theorem rp_a {rows : List (List Int)} {good : List Bool} {k : Nat} (v : VB rows good k) {S : SM} (W : MW rows k S) {i : Nat} (hi : i < S.1.length) {r : Option Res}
    (hk : ∀ m', r07_Monoid_Period.L0 (.int .i64 i) (.fptr [ofD rows.length S, wdsV S]) (.int .i64 (pw rows S i S.1.length : Nat)) (.int .i64 S.1.length) m' [.code r07_Monoid_Period.r6, .code r07_Monoid_Period.k2, .code r07_Monoid_Period.r9, .code .ret] = r) :
    ∀ (c j : Nat) (m : Mem), j + c = S.1.length → r07_Monoid_Period.L0 (.int .i64 i) (.fptr [ofD rows.length S, wdsV S]) (.int .i64 (pw rows S i j : Nat)) (.int .i64 j) m [.code r07_Monoid_Period.r6, .code r07_Monoid_Period.k2, .code r07_Monoid_Period.r9, .code .ret] = r := by
  intro c
  have hle := W.ok.le
  induction c with
  | zero =>
    intro j m h1
    have e : j = S.1.length := by omega
    subst e
    exact hk m
  | succ c ih =>
    intro j m h1
    have hj : j < S.1.length := by omega
    have hwj : IntKind.wrap .i64 ((j : Int) + 1) = (j : Int) + 1 := wrap_id (by omega) (by omega)
    have ht := fun m => times_spec v W (pw_lt v W hi j) hi m
    have he : numM rows S (wrd S (pw rows S i j) ++ wrd S i) = pw rows S i (j + 1) := rfl
    rw [he] at ht
    have st := fun m => ih (j + 1) m (by omega)
    simp only [Int.natCast_add, Int.cast_ofNat_Int] at st
    simp only [ofV, List.map_map] at ht
    rw [r07_Monoid_Period.L0_eq]
    simp only [ofD, wdsV] at st ⊢
    simp at st
    simp [hj, ht, hwj, st]
    done
theorem rp_b {rows : List (List Int)} {good : List Bool} {k : Nat} (v : VB rows good k) {S : SM} (W : MW rows k S) {i : Nat} (hi : i < S.1.length) :
    ∀ (f q : Nat) (m : Mem), perd rows S i = q + f → 1 ≤ q → r07_Monoid_Period.L2 (.int .i64 i) (.fptr [ofD rows.length S, wdsV S]) (.int .i64 (pw rows S i S.1.length : Nat)) (.int .i64 (pw rows S i (S.1.length + q) : Nat)) (.int .i64 q) m [.code r07_Monoid_Period.r9, .code .ret] = some (.int .i64 (perd rows S i : Nat), Mem.empty) := by
  intro f
  have hle := W.ok.le
  have hp := perd_is v W hi
  induction f with
  | zero =>
    intro q m h1 h2
    have e : q = perd rows S i := by omega
    have he := hp.eq
    rw [← e] at he
    rw [r07_Monoid_Period.L2_eq, he]
    simp only [ofD, wdsV]
    simp [e]
    done
  | succ f ih =>
    intro q m h1 h2
    have hne := hp.mn q h2 (by omega)
    have hne' : ¬ ((pw rows S i (S.1.length + q) : Nat) : Int) = (pw rows S i S.1.length : Nat) := by omega
    have hpl : perd rows S i ≤ S.1.length + 1 := by
      by_cases w : perd rows S i ≤ S.1.length + 1
      · exact w
      · exfalso
        have : perd rows S i ≤ S.1.length := rep_few (f := fun t => pw rows S i (S.1.length + t)) (fun t => pw_lt v W hi _) (fun a b ab hb e => by
          have h3 := shf (pw_H rows S i) e (perd rows S i - b)
          have h4 := hp.mn (a + (perd rows S i - b)) (by omega) (by omega)
          rw [show S.1.length + b + (perd rows S i - b) = S.1.length + perd rows S i by omega, hp.eq] at h3
          exact h4 (by rw [show S.1.length + (a + (perd rows S i - b)) = S.1.length + a + (perd rows S i - b) by omega]; exact h3))
        omega
    have hwq : IntKind.wrap .i64 ((q : Int) + 1) = (q : Int) + 1 := wrap_id (by omega) (by omega)
    have ht := fun m => times_spec v W (pw_lt v W hi (S.1.length + q)) hi m
    have he : numM rows S (wrd S (pw rows S i (S.1.length + q)) ++ wrd S i) = pw rows S i (S.1.length + q + 1) := rfl
    rw [he] at ht
    have st := fun m => ih (q + 1) m (by omega) (by omega)
    rw [← Nat.add_assoc] at st
    simp only [Int.natCast_add, Int.cast_ofNat_Int] at st
    simp only [ofV, List.map_map] at ht
    rw [r07_Monoid_Period.L2_eq]
    simp only [ofD, wdsV] at st ⊢
    simp at st
    simp [hne', ht, hwq, st]
    done
theorem rper_spec {rows : List (List Int)} {good : List Bool} {k : Nat} (v : VB rows good k) {S : SM} (W : MW rows k S) {i : Nat} (hi : i < S.1.length) (m : Mem) :
    denC prog ann 53 [ofV rows.length S, .int .i64 (i : Nat)] m = some (.int .i64 (perd rows S i : Nat), m) := by
  have hp := perd_is v W hi
  have ht := fun m => times_spec v W (pw_lt v W hi S.1.length) hi m
  have he : numM rows S (wrd S (pw rows S i S.1.length) ++ wrd S i) = pw rows S i (S.1.length + 1) := rfl
  rw [he] at ht
  have lb := fun m => rp_b v W hi (perd rows S i - 1) 1 m (by have := hp.ps; omega) (by omega)
  simp only [ofV, List.map_map] at ht
  have la := fun m => rp_a v W hi (r := some (.int .i64 (perd rows S i : Nat), Mem.empty)) (fun m' => by
    rw [r07_Monoid_Period.L0_eq]
    simp only [ofD, wdsV] at lb ⊢
    simp at lb
    simp [ht, lb]
    done) S.1.length 0 m (by omega)
  simp only [Int.ofNat_zero, Int.cast_ofNat_Int, pw] at la
  rw [ofV_eq, r07_Monoid_Period.call_eq _ _ _ (by simp [ofD, wdsV])]
  simp only [ofD, wdsV] at la ⊢
  simp at la
  simp [la]
  done
def smp (S : SM) (l : List (List Nat)) : List UInt8 × List UInt8 × Bool := match l.find? (fun c => decide (1 < c.length)) with
  | some c => (wrd S (c.getD 0 0), wrd S (c.getD 1 0), true)
  | none => ([], [], false)
def smpV (S : SM) (l : List (List Nat)) : AV := .tup [.str (smp S l).1, .str (smp S l).2.1, .int .i64 (if (smp S l).2.2 = true then 0 else 5)]
theorem smp_cons (S : SM) (c : List Nat) (l : List (List Nat)) : smp S (c :: l) = if 1 < c.length then (wrd S (c.getD 0 0), wrd S (c.getD 1 0), true) else smp S l := by
  rw [smp, List.find?_cons]
  by_cases q : 1 < c.length
  · simp [q]
  · simp [q, smp]
theorem clF_head {S : SM} {l : List (List Nat)} {i : Nat} (h : i < l.length) : ((l.map (clF S)).drop i).head? = some (.fsl false l[i].length (clV S l[i])) := by
  rw [List.head?_drop]; simp [clF, h]
theorem clV_head {S : SM} {c : List Nat} {i : Nat} (h : i < c.length) : ((clV S c).drop i).head? = some (.str (wrd S (c.getD i 0))) := by
  rw [List.head?_drop]; simp [clV, h, List.getD_eq_getElem?_getD]
theorem si_loop {S : SM} {l : List (List Nat)} (hl : l.length ≤ 1000) : ∀ (c i : Nat) (m : Mem), i + c = l.length →
    brand_Simple.L0 (clsV S l) (.int .i64 l.length) (.int .i64 i) m [.code brand_Simple.r10, .code .ret] = some (smpV S (l.drop i), Mem.empty) := by
  intro c
  induction c with
  | zero =>
    intro i m h1
    have e : i = l.length := by omega
    subst e
    rw [brand_Simple.L0_eq]
    simp [smpV, smp]
    done
  | succ c ih =>
    intro i m h1
    have hi : i < l.length := by omega
    have hwi : IntKind.wrap .i64 ((i : Int) + 1) = (i : Int) + 1 := wrap_id (by omega) (by omega)
    have t1 := clF_head (S := S) hi
    have st := fun m => ih (i + 1) m (by omega)
    simp only [Int.natCast_add, Int.cast_ofNat_Int] at st
    have hdc : l.drop i = l[i] :: l.drop (i + 1) := by rw [List.drop_eq_getElem_cons hi]
    rw [hdc, smpV, smp_cons]
    generalize l[i] = C at *
    rw [brand_Simple.L0_eq]
    simp only [clsV] at st ⊢
    by_cases q : 1 < C.length
    · have q' : (1 : Int) < (C.length : Int) := by omega
      have t2 := clV_head (S := S) (c := C) (i := 0) (by omega)
      have t3 := clV_head (S := S) (c := C) (i := 1) (by omega)
      rw [List.drop_zero] at t2
      rw [if_pos q]
      simp [hi, t1, q, q', t2, t3, show 0 < C.length by omega, -List.head?_drop, -List.map_drop]
      simp [clV]
      done
    · have q' : ¬ (1 : Int) < (C.length : Int) := by omega
      rw [if_neg q]
      simp [hi, t1, q, q', hwi, st, smpV, -List.head?_drop, -List.map_drop]
      done
theorem simple_spec {nv gv : AV} {ps : List AV} {rows : List (List Int)} {good : List Bool} (hn : IsRows nv ps rows) (hg : IsB gv good) (hl : rows.length ≤ 1000) (hgl : good.length ≤ 1000) (hr : ∀ i, i < rows.length → (cth rows i).length ≤ 1000) (m : Mem) :
    denC prog ann 52 [.agg [nv, gv]] m = some (if validB rows good = true then (match madeB rows good (cth rows 0).length with | some S => smpV S (clsM (rowsM rows good (cth rows 0).length) S (cth rows 0).length true true) | none => .tup [.str [], .str [], .int .i64 7]) else .tup [.str [], .str [], .int .i64 1], m) := by
  have h1 := fun m => classed_spec hn hg hl hgl hr true true m
  rw [brand_Simple.call_eq _ _ (by simp [hn.closed, hg.closed])]
  cases c0 : validB rows good with
  | false =>
    rw [c0] at h1
    simp [hn.one, hg.one, hn.closed, hg.closed, h1]
    done
  | true =>
    rw [c0, if_pos rfl] at h1
    have v := VB.of c0
    cases e : madeB rows good (cth rows 0).length with
    | none =>
      rw [e] at h1
      simp [hn.one, hg.one, hn.closed, hg.closed, h1]
      done
    | some S =>
      have W := MW_of v e
      have wl := W.ok.le
      rw [e] at h1
      simp only [] at h1 ⊢
      have few := (clsL_few (eqB (rowsM rows good (cth rows 0).length) S (cth rows 0).length true true) S.1.length).1
      have lp := fun m => si_loop (S := S) (l := clsM (rowsM rows good (cth rows 0).length) S (cth rows 0).length true true) (by rw [clsM]; omega) (clsM (rowsM rows good (cth rows 0).length) S (cth rows 0).length true true).length 0 m (by omega)
      simp only [Int.ofNat_zero, Int.cast_ofNat_Int, List.drop_zero] at lp
      generalize clsM (rowsM rows good (cth rows 0).length) S (cth rows 0).length true true = l at *
      simp only [clsV] at h1 lp
      simp [hn.one, hg.one, hn.closed, hg.closed, h1, lp]
      done
end Go.Proofs.Ythnpflkpjimkfaa

/-
  BrandAccepts: the law answers true. Conditions: none.
-/
namespace Go.Proofs.Ythnpflkpjimkfaa
open Go.AM
open Go.Proofs.Try (prog)
set_option linter.all false
set_option maxRecDepth 100000
set_option maxHeartbeats 8000000
theorem IsRows.cells {v : AV} {ps : List AV} {rows : List (List Int)} (h : IsRows v ps rows) : v.cells = [v] := by rcases h.val with ⟨rfl, _⟩ | ⟨_, rfl⟩ <;> rfl
end Go.Proofs.Ythnpflkpjimkfaa

/-
  BrandMonoids: the law answers true. Conditions: none.
-/
namespace Go.Proofs.Ythnpflkpjimkfaa
open Go.AM
open Go.Proofs.Try (prog)
set_option linter.all false
set_option maxRecDepth 100000
set_option maxHeartbeats 8000000
end Go.Proofs.Ythnpflkpjimkfaa

/-
  BrandGroups: the law answers true. Conditions: none.
-/
namespace Go.Proofs.Ythnpflkpjimkfaa
open Go.AM
open Go.Proofs.Try (prog)
set_option linter.all false
set_option maxRecDepth 100000
set_option maxHeartbeats 8000000
noncomputable def grpO (rows : List (List Int)) (S : SM) (c i : Nat) : List UInt8 × Nat := match (List.range' i c).find? (fun i => decide (1 < perd rows S i)) with
  | some i => (wrd S i, perd rows S i)
  | none => ([], 0)
theorem grpO_succ (rows : List (List Int)) (S : SM) (c i : Nat) : grpO rows S (c + 1) i = if 1 < perd rows S i then (wrd S i, perd rows S i) else grpO rows S c (i + 1) := by
  rw [grpO, List.range'_succ, List.find?_cons]
  by_cases q : 1 < perd rows S i
  · simp [q]
  · simp [q, grpO]
theorem grpV_O (rows : List (List Int)) (S : SM) (c i : Nat) : grpV rows S c i = .tup [.str (grpO rows S c i).1, .int .i64 ((grpO rows S c i).2 : Nat), .int .i64 (if 0 < (grpO rows S c i).2 then 0 else 5)] := by
  rw [grpV, grpO]
  cases e : (List.range' i c).find? (fun i => decide (1 < perd rows S i)) with
  | none => rfl
  | some j =>
    have := List.find?_some e
    simp at this
    simp [show 0 < perd rows S j by omega]
noncomputable def KU2 : List Item := [.code l07_BrandGroups.r32, .code .ret]
noncomputable def KU0 : List Item := .code l07_BrandGroups.r24 :: .code l07_BrandGroups.r25 :: .code l07_BrandGroups.r26 :: .code l07_BrandGroups.r27 :: .code l07_BrandGroups.k2 :: KU2
theorem lg_p {rows : List (List Int)} {good : List Bool} {k : Nat} (v : VB rows good k) {S : SM} (W : MW rows k S) {x6 x7 x8 x9 x10 x11 : AV} {gp : List UInt8 × Nat} {r : Option Res}
    (hk : ∀ m' (j : Nat), j ≤ S.1.length → (j = S.1.length ∨ 0 < gp.2) → l07_BrandGroups.L0 x6 x7 x8 x9 x10 x11 (.fptr [ofD rows.length S, wdsV S]) (.str gp.1) (.int .i64 (gp.2 : Nat)) (.int .i64 j) m' KU0 = r) :
    ∀ (c i : Nat) (m : Mem), i + c = S.1.length → grpO rows S c i = gp → l07_BrandGroups.L0 x6 x7 x8 x9 x10 x11 (.fptr [ofD rows.length S, wdsV S]) (.str []) (.int .i64 0) (.int .i64 i) m KU0 = r := by
  intro c
  have hle := W.ok.le
  have hlen := W.ok.len
  induction c with
  | zero =>
    intro i m h1 h2
    have e : i = S.1.length := by omega
    subst e
    have e2 : gp = ([], 0) := by rw [← h2]; rfl
    have := hk m S.1.length (by omega) (.inl rfl)
    rw [e2] at this
    exact this
  | succ c ih =>
    intro i m h1 h2
    have hi : i < S.1.length := by omega
    have hi2 : i < S.2.length := by omega
    have hwi : IntKind.wrap .i64 ((i : Int) + 1) = (i : Int) + 1 := wrap_id (by omega) (by omega)
    obtain ⟨w1, w2, w3, w4⟩ := W.wok hi
    have hd : ((S.2.map AV.str).drop i).head? = some (.str (wrd S i)) := by rw [List.head?_drop, List.getElem?_map, w1]; rfl
    have hp := fun m => rper_spec v W hi m
    rw [grpO_succ] at h2
    simp only [ofV_eq, ofD, wdsV] at hp
    by_cases q : 1 < perd rows S i
    · rw [if_pos q] at h2
      have q' : (1 : Int) < (perd rows S i : Nat) := by omega
      have st := fun m => hk m (i + 1) (by omega) (.inr (by rw [← h2]; show 0 < perd rows S i; omega))
      rw [← h2] at st
      simp only [Int.natCast_add, Int.cast_ofNat_Int] at st
      rw [l07_BrandGroups.L0_eq]
      simp only [ofD, wdsV] at st ⊢
      simp at hp st
      simp [hi2, hp, q', hd, hwi, st, -List.head?_drop, -List.map_drop]
      done
    · rw [if_neg q] at h2
      have q' : ¬ (1 : Int) < (perd rows S i : Nat) := by omega
      have st := fun m => ih (i + 1) m (by omega) h2
      simp only [Int.natCast_add, Int.cast_ofNat_Int] at st
      rw [l07_BrandGroups.L0_eq]
      simp only [ofD, wdsV] at st ⊢
      simp at hp st
      simp [hi2, hp, q', hwi, st]
      done
theorem lg_c {n : Nat} {rows : List (List Int)} {k : Nat} {S : SM} (W : MW rows k S) {x6 x7 x8 x9 x10 x11 x17 x18 : AV} {l : List (List Nat)} (hl : l.length ≤ 1000) (hcl : ∀ c ∈ l, (∀ x ∈ c, x < S.1.length) ∧ c.length ≤ 1000) {o : List UInt8 × List UInt8 × Bool} {r : Option Res}
    (hk : ∀ m' (j : Nat), j ≤ l.length → (j = l.length ∨ o.2.2 = true) → l07_BrandGroups.L2 x6 x7 x8 x9 x10 x11 (.fptr [ofD n S, wdsV S]) x17 x18 (.str o.1) (.str o.2.1) (clsNV l) (.bool o.2.2) (.int .i64 j) m' KU2 = r) :
    ∀ (c i : Nat) (m : Mem), i + c = l.length → smp S (l.drop i) = o → l07_BrandGroups.L2 x6 x7 x8 x9 x10 x11 (.fptr [ofD n S, wdsV S]) x17 x18 (.str []) (.str []) (clsNV l) (.bool false) (.int .i64 i) m KU2 = r := by
  intro c
  have hle := W.ok.le
  have hlen := W.ok.len
  induction c with
  | zero =>
    intro i m h1 h2
    have e : i = l.length := by omega
    subst e
    have e2 : o = ([], [], false) := by rw [← h2]; simp [smp]
    have := hk m l.length (by omega) (.inl rfl)
    rw [e2] at this
    exact this
  | succ c ih =>
    intro i m h1 h2
    have hi : i < l.length := by omega
    have hwi : IntKind.wrap .i64 ((i : Int) + 1) = (i : Int) + 1 := wrap_id (by omega) (by omega)
    have t1 := clN_head hi
    obtain ⟨c1, c2⟩ := hcl l[i] (List.getElem_mem hi)
    have hdc : l.drop i = l[i] :: l.drop (i + 1) := by rw [List.drop_eq_getElem_cons hi]
    rw [hdc, smp_cons] at h2
    generalize l[i] = C at *
    by_cases q : 1 < C.length
    · rw [if_pos q] at h2
      have q' : (1 : Int) < (C.length : Int) := by omega
      have t2 := natL_head (c := C) (i := 0) (by omega)
      have t3 := natL_head (c := C) (i := 1) (by omega)
      rw [List.drop_zero] at t2
      have t3' : (natL C)[1]'(by simp [natL]; omega) = .int .i64 (C[1] : Nat) := by simp [natL, natV]
      have g0 : C.getD 0 0 = C[0] := by simp [List.getD_eq_getElem?_getD, show 0 < C.length by omega]
      have g1 : C.getD 1 0 = C[1] := by simp [List.getD_eq_getElem?_getD, q]
      rw [g0, g1] at h2
      have b0 := c1 C[0] (List.getElem_mem _)
      have b1 := c1 C[1] (List.getElem_mem _)
      generalize C[0] = y0 at *
      generalize C[1] = y1 at *
      obtain ⟨w1, w2, w3, w4⟩ := W.wok b0
      obtain ⟨u1, u2, u3, u4⟩ := W.wok b1
      have hd0 : ((S.2.map AV.str).drop y0).head? = some (.str (wrd S y0)) := by rw [List.head?_drop, List.getElem?_map, w1]; rfl
      have hd1 : ((S.2.map AV.str).drop y1).head? = some (.str (wrd S y1)) := by rw [List.head?_drop, List.getElem?_map, u1]; rfl
      have st := fun m => hk m (i + 1) (by omega) (.inr (by rw [← h2]))
      rw [← h2] at st
      simp only [Int.natCast_add, Int.cast_ofNat_Int] at st
      rw [l07_BrandGroups.L2_eq]
      simp only [ofD, wdsV, clsNV] at st ⊢
      simp at st
      simp [hi, t1, q, q', t2, t3, t3', hd0, hd1, show y0 < S.2.length by omega, show y1 < S.2.length by omega, show 0 < C.length by omega, hwi, st, -List.head?_drop, -List.map_drop]
      done
    · rw [if_neg q] at h2
      have q' : ¬ (1 : Int) < (C.length : Int) := by omega
      have st := fun m => ih (i + 1) m (by omega) h2
      simp only [Int.natCast_add, Int.cast_ofNat_Int] at st
      rw [l07_BrandGroups.L2_eq]
      simp only [ofD, wdsV, clsNV] at st ⊢
      simp at st
      simp [hi, t1, q, q', hwi, st, -List.head?_drop, -List.map_drop]
      done
theorem grp_runs {d : Nat} (a0 : AV) (h0 : DatV prog (d + 4) 25 a0) : ∃ m', denC prog ann 15 [a0] Mem.empty = some (.bool true, m') := by
  obtain ⟨nv, gv, ps, rows, good, rfl, hn, hg, hgl, hrl⟩ := datV25 h0
  obtain ⟨nv1, gv1, ps1, hn1, hg1, hc1⟩ := cut_spec hn hg hgl hrl
  have hl1 := cutR_len rows
  have hr1 : ∀ i, i < (cutR rows).length → (cth (cutR rows) i).length ≤ 1000 := fun i hi => by have := cutR_row rows i hi; omega
  have hg71 : (good.take 7).length ≤ 7 := by simp; omega
  have hcl : closedL [.agg [nv, gv]] = true := by simp [hn.closed, hg.closed]
  generalize good.take 7 = gd at *
  generalize cutR rows = R at *
  have ha := fun m => groups_spec hn1 hg1 (by omega) (by omega) hr1 m
  have hb := fun m => simple_spec hn1 hg1 (by omega) (by omega) hr1 m
  have hv1 := fun m => rvalid_spec hn1 hg1 (by omega) (by omega) hr1 m
  refine ⟨Mem.empty, ?_⟩
  rw [l07_BrandGroups.call_eq _ _ hcl]
  cases c1 : validB R gd with
  | false =>
    rw [c1] at ha hb hv1
    simp [hn.one, hg.one, hn.closed, hg.closed, hc1, hn1.one, hg1.one, hn1.closed, hg1.closed, hn1.cells, hg1.cells, ha, hb, hv1, lives_spec]
    done
  | true =>
    rw [c1, if_pos rfl] at ha hb
    rw [c1] at hv1
    have v := VB.of c1
    have hm := isRows_M R gd (cth R 0).length
    have hg2 := isB_M R gd (cth R 0).length
    have vm := VB_M v
    have hsm := fun m => rsmallest_spec hn1 hg1 v m
    rw [resV_eq] at hsm
    have hof := fun m => of_spec hm hg2 vm m
    have hmd := ofE_made (rowsM R gd (cth R 0).length) (cth R 0).length
    have hmb : madeB R gd (cth R 0).length = madeS (rowsM R gd (cth R 0).length) (cth R 0).length := rfl
    rw [hmd] at hmb
    cases e : (ofE (rowsM R gd (cth R 0).length) (cth R 0).length).2 with
    | false =>
      rw [if_neg (by rw [e]; simp)] at hmb
      rw [hmb] at ha hb
      simp only [ofR, ofV, e] at hof
      simp [hn.one, hg.one, hn.closed, hg.closed, hc1, hn1.one, hg1.one, hn1.closed, hg1.closed, hn1.cells, hg1.cells, hm.one, hg2.one, hm.closed, hg2.closed, hm.cells, hg2.cells, ha, hb, hv1, hsm, hof, lives_spec]
      done
    | true =>
      rw [if_pos e] at hmb
      rw [hmb] at ha hb
      have W := MW_of v hmb
      have wl := W.ok.le
      have wle := W.ok.len
      simp only [ofR, e] at hof
      generalize (ofE (rowsM R gd (cth R 0).length) (cth R 0).length).1 = S at *
      have k2 := fun m => rclasses_spec vm W 2 m
      have few := clsL_few (eqB (rowsM R gd (cth R 0).length) S (cth R 0).length true true) S.1.length
      have hmem := clsL_mem (E := eqB (rowsM R gd (cth R 0).length) S (cth R 0).length true true) (n := S.1.length)
      simp only [show lfK 2 = true from rfl, show rtK 2 = true from rfl] at k2
      simp only [grpV_O, smpV] at ha hb
      have hfew1 : (clsM (rowsM R gd (cth R 0).length) S (cth R 0).length true true).length ≤ 1000 := by rw [clsM]; omega
      have hcl2 : ∀ c ∈ clsM (rowsM R gd (cth R 0).length) S (cth R 0).length true true, (∀ x ∈ c, x < S.1.length) ∧ c.length ≤ 1000 := fun c hc => ⟨hmem c hc, by have := few.2 c hc; omega⟩
      generalize clsM (rowsM R gd (cth R 0).length) S (cth R 0).length true true = l at *
      have fin2 : ∀ m : Mem, l07_BrandGroups.L2 (.str (grpO (rowsM R gd (cth R 0).length) S S.1.length 0).1) (.int .i64 ((grpO (rowsM R gd (cth R 0).length) S S.1.length 0).2 : Nat)) (.int .i64 (if 0 < (grpO (rowsM R gd (cth R 0).length) S S.1.length 0).2 then 0 else 5)) (.str (smp S l).1) (.str (smp S l).2.1) (.int .i64 (if (smp S l).2.2 = true then 0 else 5)) (.fptr [ofD (rowsM R gd (cth R 0).length).length S, wdsV S]) (.str (grpO (rowsM R gd (cth R 0).length) S S.1.length 0).1) (.int .i64 ((grpO (rowsM R gd (cth R 0).length) S S.1.length 0).2 : Nat)) (.str []) (.str []) (clsNV l) (.bool false) (.int .i64 (0 : Nat)) m KU2 = some (.bool true, Mem.empty) := by
        intro m
        refine lg_c W hfew1 hcl2 (o := smp S l) (fun m' j hj hc => ?_) l.length 0 m (by omega) (by simp)
        generalize grpO (rowsM R gd (cth R 0).length) S S.1.length 0 = gp at *
        generalize smp S l = o at *
        obtain ⟨o1, o2, o3⟩ := o
        obtain ⟨g1, g2⟩ := gp
        rw [l07_BrandGroups.L2_eq]
        simp only [clsNV]
        by_cases qg : 0 < g2
        · have qg' : (0 : Int) < (g2 : Int) := by omega
          cases o3 with
          | true =>
            by_cases qj : j < l.length
            · simp [KU2, qj, qg, qg', lives_spec]
              done
            · simp [KU2, qj, qg, qg', lives_spec]
              done
          | false =>
            have hj : j = l.length := by simpa using hc
            subst hj
            simp [KU2, qg, qg', lives_spec]
            done
        · have qg' : ¬ (0 : Int) < (g2 : Int) := by omega
          cases o3 with
          | true =>
            by_cases qj : j < l.length
            · simp [KU2, qj, qg, qg', lives_spec]
              done
            · simp [KU2, qj, qg, qg', lives_spec]
              done
          | false =>
            have hj : j = l.length := by simpa using hc
            subst hj
            simp [KU2, qg, qg', lives_spec]
            done
      have fin1 : ∀ m : Mem, l07_BrandGroups.L0 (.str (grpO (rowsM R gd (cth R 0).length) S S.1.length 0).1) (.int .i64 ((grpO (rowsM R gd (cth R 0).length) S S.1.length 0).2 : Nat)) (.int .i64 (if 0 < (grpO (rowsM R gd (cth R 0).length) S S.1.length 0).2 then 0 else 5)) (.str (smp S l).1) (.str (smp S l).2.1) (.int .i64 (if (smp S l).2.2 = true then 0 else 5)) (.fptr [ofD (rowsM R gd (cth R 0).length).length S, wdsV S]) (.str []) (.int .i64 0) (.int .i64 (0 : Nat)) m KU0 = some (.bool true, Mem.empty) := by
        intro m
        refine lg_p vm W (gp := grpO (rowsM R gd (cth R 0).length) S S.1.length 0) (fun m' j hj hc => ?_) S.1.length 0 m (by omega) rfl
        have f2 := fin2
        simp only [Int.ofNat_zero, Int.cast_ofNat_Int, KU2] at f2
        simp only [ofV_eq, Int.cast_ofNat_Int] at k2
        generalize grpO (rowsM R gd (cth R 0).length) S S.1.length 0 = gp at *
        obtain ⟨g1, g2⟩ := gp
        simp only at f2 hc ⊢
        simp only [ofD, wdsV] at k2 f2 ⊢
        simp at k2 f2
        have kc : (clsNV l).closed = true := rfl
        rw [l07_BrandGroups.L0_eq]
        by_cases qg : 0 < g2
        · have qg' : ¬ g2 = 0 := by omega
          by_cases qj : j < S.2.length
          · simp [KU0, KU2, qj, qg', k2, kc, f2]
            done
          · simp [KU0, KU2, qj, qg', k2, kc, f2]
            done
        · have hj : j = S.2.length := by omega
          subst hj
          simp [KU0, KU2, k2, kc, f2]
          done
      simp only [Int.ofNat_zero, Int.cast_ofNat_Int, KU0, KU2] at fin1
      simp only [ofV, ofD, wdsV, List.map_map] at hof fin1
      by_cases q60 : (60 : Int) < (S.2.length : Int)
      · simp [hn.one, hg.one, hn.closed, hg.closed, hc1, hn1.one, hg1.one, hn1.closed, hg1.closed, hn1.cells, hg1.cells, hm.one, hg2.one, hm.closed, hg2.closed, hm.cells, hg2.cells, hv1, hsm, hof, q60, lives_spec]
        done
      · simp [hn.one, hg.one, hn.closed, hg.closed, hc1, hn1.one, hg1.one, hn1.closed, hg1.closed, hn1.cells, hg1.cells, hm.one, hg2.one, hm.closed, hg2.closed, hm.cells, hg2.cells, ha, hb, hv1, hsm, hof, q60, lives_spec]
        rw [fin1]
        rfl
end Go.Proofs.Ythnpflkpjimkfaa
